/-
  Vectors of the plane, plainly: cross products, halves, the order by angle.
  Convex polygons, plainly: edges sorted by angle, and vertices on the left of all edges.
  The chain of a hull, plainly: it turns left, and has all points on its left; there is just one such chain.
  Polygons, plainly: a list is its own hull exactly if its edges are sorted by angle.
  Polygons, plainly: the edges of a list that is its own hull are sorted by angle.
  Polygons, plainly: directions and points of a polygon.
  The sum of two polygons, plainly: what the walk around both makes is a polygon, whose edges are those of both.
  Polygons, plainly: sums of nested polygons; directions that separate; the interior of a sum.
-/
import Derived.Test.YtjmklbkcpjmcaaaV2
import Derived.Test.YtjmklbkcpjmcaaaV9
import Derived.Test.YtjmklbkcpjmcaaaV10
import Derived.Test.YtjmklbkcpjmcaaaV16
import Derived.Test.YtjmklbkcpjmcaaaV13
import Derived.Test.YtjmklbkcpjmcaaaM4
namespace Go.Proofs.Ytjmklbkcpjmcaaa.V
open Go Go.RowKit Go.Proofs.Ytjmklbkcpjmcaaa.H
set_option linter.unusedVariables false
set_option linter.unusedSimpArgs false

def cr (a b : Pt) : Int := a.1 * b.2 - a.2 * b.1
/-- a linear function whose sign says which half a short vector points into -/
def hh (a : Pt) : Int := 1000000 * a.2 + a.1
def sb (a b : Pt) : Pt := (a.1 - b.1, a.2 - b.2)
def ad (a b : Pt) : Pt := (a.1 + b.1, a.2 + b.2)

theorem pluck (a b c : Pt) : cr a b * hh c + cr b c * hh a + cr c a * hh b = 0 := by
  unfold cr hh; grind
theorem cr_neg (a b : Pt) : cr b a = - cr a b := by unfold cr; grind
theorem cr_self (a : Pt) : cr a a = 0 := by unfold cr; grind
theorem cr_sb (e a b : Pt) : cr e (sb a b) = cr e a - cr e b := by unfold cr sb; grind
theorem cr_sbL (e a b : Pt) : cr (sb a b) e = cr a e - cr b e := by unfold cr sb; grind
theorem cr_ad (e a b : Pt) : cr e (ad a b) = cr e a + cr e b := by unfold cr ad; grind
theorem cr_adL (e a b : Pt) : cr (ad a b) e = cr a e + cr b e := by unfold cr ad; grind
theorem hh_sb (a b : Pt) : hh (sb a b) = hh a - hh b := by unfold hh sb; simp only; omega
theorem hh_ad (a b : Pt) : hh (ad a b) = hh a + hh b := by unfold hh ad; simp only; omega
theorem trn_cr (a b c : Pt) : trn a b c = cr (sb b a) (sb c a) := rfl

/-! products and signs -/
theorem mpp {a b : Int} (h : 0 < a) (k : 0 < b) : 0 < a * b := Int.mul_pos h k
theorem mpn {a b : Int} (h : 0 < a) (k : b < 0) : a * b < 0 := Int.mul_neg_of_pos_of_neg h k
theorem mnp {a b : Int} (h : a < 0) (k : 0 < b) : a * b < 0 := Int.mul_neg_of_neg_of_pos h k
theorem mnn {a b : Int} (h : a < 0) (k : b < 0) : 0 < a * b := Int.mul_pos_of_neg_of_neg h k
theorem npp {a b : Int} (h : 0 ≤ a) (k : 0 ≤ b) : 0 ≤ a * b := Int.mul_nonneg h k
theorem npn {a b : Int} (h : 0 ≤ a) (k : b ≤ 0) : a * b ≤ 0 := Int.mul_nonpos_of_nonneg_of_nonpos h k
theorem nnp {a b : Int} (h : a ≤ 0) (k : 0 ≤ b) : a * b ≤ 0 := Int.mul_nonpos_of_nonpos_of_nonneg h k
theorem nnn {a b : Int} (h : a ≤ 0) (k : b ≤ 0) : 0 ≤ a * b := Int.mul_nonneg_of_nonpos_of_nonpos h k
theorem fpos {a b : Int} (h : 0 < a * b) (k : 0 < b) : 0 < a := by
  rcases Int.lt_trichotomy a 0 with h1 | h1 | h1
  · have := mnp h1 k; omega
  · rw [h1, Int.zero_mul] at h; omega
  · exact h1
theorem fneg {a b : Int} (h : a * b < 0) (k : 0 < b) : a < 0 := by
  rcases Int.lt_trichotomy a 0 with h1 | h1 | h1
  · exact h1
  · rw [h1, Int.zero_mul] at h; omega
  · have := mpp h1 k; omega
theorem fnon {a b : Int} (h : 0 ≤ a * b) (k : 0 < b) : 0 ≤ a := by
  rcases Int.lt_or_le a 0 with h1 | h1
  · have := mnp h1 k; omega
  · exact h1
theorem fnop {a b : Int} (h : a * b ≤ 0) (k : 0 < b) : a ≤ 0 := by
  rcases Int.lt_or_le 0 a with h1 | h1
  · have := mpp h1 k; omega
  · exact h1
theorem gpos {a b : Int} (h : a * b < 0) (k : b < 0) : 0 < a := by
  rcases Int.lt_trichotomy a 0 with h1 | h1 | h1
  · have := mnn h1 k; omega
  · rw [h1, Int.zero_mul] at h; omega
  · exact h1
theorem gneg {a b : Int} (h : 0 < a * b) (k : b < 0) : a < 0 := by
  rcases Int.lt_trichotomy a 0 with h1 | h1 | h1
  · exact h1
  · rw [h1, Int.zero_mul] at h; omega
  · have := mpn h1 k; omega
theorem gnon {a b : Int} (h : a * b ≤ 0) (k : b < 0) : 0 ≤ a := by
  rcases Int.lt_or_le a 0 with h1 | h1
  · have := mnn h1 k; omega
  · exact h1
theorem gnop {a b : Int} (h : 0 ≤ a * b) (k : b < 0) : a ≤ 0 := by
  rcases Int.lt_or_le 0 a with h1 | h1
  · have := mpn h1 k; omega
  · exact h1

/-! three vectors -/
/-- from one half: the order by angle is transitive -/
theorem up_trans {a b c : Pt} (ha : 0 < hh a) (hb : 0 < hh b) (hc : 0 < hh c) (h1 : 0 < cr a b) (h2 : 0 < cr b c) : 0 < cr a c := by
  have h := pluck a b c
  rw [cr_neg a c] at h
  have e1 := mpp h1 hc
  have e2 := mpp h2 ha
  exact fpos (by grind) hb
theorem up_trans_e {a b c : Pt} (ha : 0 < hh a) (hb : 0 < hh b) (hc : 0 < hh c) (h1 : 0 ≤ cr a b) (h2 : 0 ≤ cr b c) : 0 ≤ cr a c := by
  have h := pluck a b c
  rw [cr_neg a c] at h
  have e1 := npp h1 (Int.le_of_lt hc)
  have e2 := npp h2 (Int.le_of_lt ha)
  exact fnon (by grind) hb
theorem up_trans_s {a b c : Pt} (ha : 0 < hh a) (hb : 0 < hh b) (hc : 0 < hh c) (h1 : 0 < cr a b) (h2 : 0 ≤ cr b c) : 0 < cr a c := by
  have h := pluck a b c
  rw [cr_neg a c] at h
  have e1 := mpp h1 hc
  have e2 := npp h2 (Int.le_of_lt ha)
  exact fpos (by grind) hb
theorem up_trans_t {a b c : Pt} (ha : 0 < hh a) (hb : 0 < hh b) (hc : 0 < hh c) (h1 : 0 ≤ cr a b) (h2 : 0 < cr b c) : 0 < cr a c := by
  have h := pluck a b c
  rw [cr_neg a c] at h
  have e1 := npp h1 (Int.le_of_lt hc)
  have e2 := mpp h2 ha
  exact fpos (by grind) hb
theorem dn_trans {a b c : Pt} (ha : hh a < 0) (hb : hh b < 0) (hc : hh c < 0) (h1 : 0 < cr a b) (h2 : 0 < cr b c) : 0 < cr a c := by
  have h := pluck a b c
  rw [cr_neg a c] at h
  have e1 := mpn h1 hc
  have e2 := mpn h2 ha
  exact gpos (by grind) hb
theorem dn_trans_e {a b c : Pt} (ha : hh a < 0) (hb : hh b < 0) (hc : hh c < 0) (h1 : 0 ≤ cr a b) (h2 : 0 ≤ cr b c) : 0 ≤ cr a c := by
  have h := pluck a b c
  rw [cr_neg a c] at h
  have e1 := npn h1 (Int.le_of_lt hc)
  have e2 := npn h2 (Int.le_of_lt ha)
  exact gnon (by grind) hb
theorem dn_trans_s {a b c : Pt} (ha : hh a < 0) (hb : hh b < 0) (hc : hh c < 0) (h1 : 0 < cr a b) (h2 : 0 ≤ cr b c) : 0 < cr a c := by
  have h := pluck a b c
  rw [cr_neg a c] at h
  have e1 := mpn h1 hc
  have e2 := npn h2 (Int.le_of_lt ha)
  exact gpos (by grind) hb
theorem dn_trans_t {a b c : Pt} (ha : hh a < 0) (hb : hh b < 0) (hc : hh c < 0) (h1 : 0 ≤ cr a b) (h2 : 0 < cr b c) : 0 < cr a c := by
  have h := pluck a b c
  rw [cr_neg a c] at h
  have e1 := npn h1 (Int.le_of_lt hc)
  have e2 := mpn h2 ha
  exact gpos (by grind) hb
/-- e up, then a, b down in order: once a lies to the right of e, so does b -/
theorem right_stays {e a b : Pt} (he : 0 < hh e) (ha : hh a < 0) (hb : hh b < 0) (h1 : 0 < cr a b) (h2 : cr e a ≤ 0) : cr e b < 0 := by
  have h := pluck e a b
  rw [cr_neg e b] at h
  have e1 := nnn h2 (Int.le_of_lt hb)
  have e2 := mpp h1 he
  exact gneg (by grind) ha
/-- e down, a, b up in order: if b lies to the left of e, so does a -/
theorem left_was {e a b : Pt} (he : hh e < 0) (ha : 0 < hh a) (hb : 0 < hh b) (h1 : 0 < cr a b) (h2 : 0 ≤ cr e b) : 0 < cr e a := by
  have h := pluck e a b
  rw [cr_neg e b] at h
  have e1 := npp h2 (Int.le_of_lt ha)
  have e2 := mpn h1 he
  exact fpos (by grind) hb

/-! the order by angle -/
def An (a b : Pt) : Prop := (0 < hh a ∧ hh b < 0) ∨ (((0 < hh a ∧ 0 < hh b) ∨ (hh a < 0 ∧ hh b < 0)) ∧ 0 < cr a b)
def Ae (a b : Pt) : Prop := (0 < hh a ∧ hh b < 0) ∨ (((0 < hh a ∧ 0 < hh b) ∨ (hh a < 0 ∧ hh b < 0)) ∧ 0 ≤ cr a b)
theorem An.ae {a b : Pt} (h : An a b) : Ae a b := by
  rcases h with h | ⟨h1, h2⟩
  · exact .inl h
  · exact .inr ⟨h1, by omega⟩
theorem Ae.refl {a : Pt} (h : hh a ≠ 0) : Ae a a := .inr ⟨by omega, by rw [cr_self]; exact Int.le_refl _⟩
theorem An.trans {a b c : Pt} (h1 : An a b) (h2 : An b c) : An a c := by
  unfold An at *
  rcases h1 with ⟨a1, a2⟩ | ⟨⟨a1, a2⟩ | ⟨a1, a2⟩, a3⟩ <;> rcases h2 with ⟨b1, b2⟩ | ⟨⟨b1, b2⟩ | ⟨b1, b2⟩, b3⟩ <;> try omega
  · exact .inr ⟨.inl ⟨a1, b2⟩, up_trans a1 a2 b2 a3 b3⟩
  · exact .inr ⟨.inr ⟨a1, b2⟩, dn_trans a1 a2 b2 a3 b3⟩
theorem Ae.trans {a b c : Pt} (h1 : Ae a b) (h2 : Ae b c) : Ae a c := by
  unfold Ae at *
  rcases h1 with ⟨a1, a2⟩ | ⟨⟨a1, a2⟩ | ⟨a1, a2⟩, a3⟩ <;> rcases h2 with ⟨b1, b2⟩ | ⟨⟨b1, b2⟩ | ⟨b1, b2⟩, b3⟩ <;> try omega
  · exact .inr ⟨.inl ⟨a1, b2⟩, up_trans_e a1 a2 b2 a3 b3⟩
  · exact .inr ⟨.inr ⟨a1, b2⟩, dn_trans_e a1 a2 b2 a3 b3⟩
theorem An.trans_ae {a b c : Pt} (h1 : An a b) (h2 : Ae b c) : An a c := by
  unfold An Ae at *
  rcases h1 with ⟨a1, a2⟩ | ⟨⟨a1, a2⟩ | ⟨a1, a2⟩, a3⟩ <;> rcases h2 with ⟨b1, b2⟩ | ⟨⟨b1, b2⟩ | ⟨b1, b2⟩, b3⟩ <;> try omega
  · exact .inr ⟨.inl ⟨a1, b2⟩, up_trans_s a1 a2 b2 a3 b3⟩
  · exact .inr ⟨.inr ⟨a1, b2⟩, dn_trans_s a1 a2 b2 a3 b3⟩
theorem Ae.trans_an {a b c : Pt} (h1 : Ae a b) (h2 : An b c) : An a c := by
  unfold An Ae at *
  rcases h1 with ⟨a1, a2⟩ | ⟨⟨a1, a2⟩ | ⟨a1, a2⟩, a3⟩ <;> rcases h2 with ⟨b1, b2⟩ | ⟨⟨b1, b2⟩ | ⟨b1, b2⟩, b3⟩ <;> try omega
  · exact .inr ⟨.inl ⟨a1, b2⟩, up_trans_t a1 a2 b2 a3 b3⟩
  · exact .inr ⟨.inr ⟨a1, b2⟩, dn_trans_t a1 a2 b2 a3 b3⟩
theorem An.total {a b : Pt} (ha : hh a ≠ 0) (hb : hh b ≠ 0) : An a b ∨ Ae b a := by
  unfold An Ae
  have := cr_neg a b
  omega
theorem An.not_ae {a b : Pt} (h : An a b) : ¬ Ae b a := by
  unfold An Ae at *
  have := cr_neg a b
  omega

/-! functions that rise or fall -/
theorem rises {G : Nat → Int} {a : Nat} : ∀ b, a ≤ b → (∀ i, a ≤ i → i < b → G i ≤ G (i + 1)) → G a ≤ G b
  | b, hab, h => by
    induction b with
    | zero => have : a = 0 := by omega
              subst this; exact Int.le_refl _
    | succ b ih =>
      rcases Nat.lt_or_eq_of_le hab with h1 | h1
      · have e1 := ih (by omega) (fun i h2 h3 => h i h2 (by omega))
        have e2 := h b (by omega) (by omega)
        omega
      · rw [h1]; exact Int.le_refl _
theorem falls {G : Nat → Int} {a : Nat} (b : Nat) (hab : a ≤ b) (h : ∀ i, a ≤ i → i < b → G (i + 1) ≤ G i) : G b ≤ G a := by
  have := rises (G := fun i => - G i) b hab (fun i h1 h2 => by have := h i h1 h2; omega)
  omega
theorem risesS {G : Nat → Int} {a : Nat} (b : Nat) (hab : a < b) (h : ∀ i, a ≤ i → i < b → G i < G (i + 1)) : G a < G b := by
  have e1 := h a (Nat.le_refl _) hab
  have e2 := rises (G := G) (a := a + 1) b hab (fun i h1 h2 => Int.le_of_lt (h i (by omega) h2))
  omega
theorem fallsS {G : Nat → Int} {a : Nat} (b : Nat) (hab : a < b) (h : ∀ i, a ≤ i → i < b → G (i + 1) < G i) : G b < G a := by
  have := risesS (G := fun i => - G i) b hab (fun i h1 h2 => by have := h i h1 h2; omega)
  omega

end Go.Proofs.Ytjmklbkcpjmcaaa.V

namespace Go.Proofs.Ytjmklbkcpjmcaaa.V
open Go Go.RowKit Go.Proofs.Ytjmklbkcpjmcaaa.H
set_option linter.unusedVariables false
set_option linter.unusedSimpArgs false

/-- a closed path whose edges are sorted by angle: where the edges begin and end to lie left of a direction -/
theorem supp {n : Nat} {E w : Nat → Pt} (hw : ∀ i, i < n → E i = sb (w (i + 1)) (w i)) (hc : w n = w 0) (hs : ∀ i j, i < j → j < n → An (E i) (E j))
    {e : Pt} (he : hh e ≠ 0) {k : Nat} (hk : k ≤ n) (h1 : ∀ i, i < k → Ae (E i) e) (h2 : ∀ i, k ≤ i → i < n → Ae e (E i)) (j : Nat) (hj : j ≤ n) : cr e (w k) ≤ cr e (w j) := by
  have step : ∀ i, i < n → cr e (w (i + 1)) = cr e (w i) + cr e (E i) := fun i hi => by rw [hw i hi, cr_sb]; omega
  have hc' : cr e (w n) = cr e (w 0) := by rw [hc]
  rcases Int.lt_or_gt_of_ne he with hn | hp
  · have A : ∀ i, k ≤ i → i < n → 0 ≤ cr e (E i) := fun i a b => by
      have := h2 i a b; unfold Ae at this; omega
    have B : ∀ i m, i < m → m < k → 0 < cr e (E m) → 0 < cr e (E i) := fun i m a b h => by
      have x := h1 m b
      have y := hs i m a (by omega)
      have z := cr_neg e (E m)
      unfold Ae at x
      unfold An at y
      exact left_was hn (a := E i) (b := E m) (by omega) (by omega) (by omega) (by omega)
    have hup : ∀ b, k ≤ b → b ≤ n → cr e (w k) ≤ cr e (w b) := fun b a1 a2 => rises (G := fun i => cr e (w i)) b a1 (fun i h3 h4 => by
      have := step i (by omega); have := A i h3 (by omega); omega)
    rcases Nat.lt_or_ge j k with hjk | hjk
    · by_cases hall : ∀ i, j ≤ i → i < k → cr e (E i) ≤ 0
      · exact falls (G := fun i => cr e (w i)) k (by omega) (fun i h3 h4 => by have := step i (by omega); have := hall i h3 h4; omega)
      · obtain ⟨i, hi⟩ := Classical.not_forall.1 hall
        simp only [Classical.not_imp] at hi
        obtain ⟨i1, i2, i3⟩ := hi
        have := rises (G := fun i => cr e (w i)) (a := 0) j (Nat.zero_le _) (fun m h3 h4 => by
          have := step m (by omega); have := B m i (by omega) i2 (by omega); omega)
        have := hup n hk (Nat.le_refl _)
        omega
    · exact hup j hjk hj
  · have A : ∀ i, i < k → cr e (E i) ≤ 0 := fun i a => by
      have := h1 i a; have := cr_neg e (E i); unfold Ae at *; omega
    have B : ∀ i m, k ≤ i → i < m → m < n → cr e (E i) < 0 → cr e (E m) < 0 := fun i m a b c h => by
      have x := h2 i a (by omega)
      have y := hs i m b c
      unfold Ae at x
      unfold An at y
      exact right_stays hp (a := E i) (b := E m) (by omega) (by omega) (by omega) (by omega)
    have hdn : ∀ b, b ≤ k → cr e (w k) ≤ cr e (w b) := fun b a1 => falls (G := fun i => cr e (w i)) k a1 (fun i h3 h4 => by
      have := step i (by omega); have := A i h4; omega)
    rcases Nat.lt_or_ge j k with hjk | hjk
    · exact hdn j (by omega)
    · by_cases hall : ∀ i, k ≤ i → i < j → 0 ≤ cr e (E i)
      · exact rises (G := fun i => cr e (w i)) j hjk (fun i h3 h4 => by have := step i (by omega); have := hall i h3 h4; omega)
      · obtain ⟨i, hi⟩ := Classical.not_forall.1 hall
        simp only [Classical.not_imp] at hi
        obtain ⟨i1, i2, i3⟩ := hi
        have := falls (G := fun i => cr e (w i)) (a := j) n hj (fun m h3 h4 => by
          have := step m (by omega); have := B i m i1 (by omega) h4 (by omega); omega)
        have := hdn 0 (Nat.zero_le _)
        omega

/-- the same for an edge, strictly -/
theorem suppS {n : Nat} {E w : Nat → Pt} (hw : ∀ i, i < n → E i = sb (w (i + 1)) (w i)) (hc : w n = w 0) (hs : ∀ i j, i < j → j < n → An (E i) (E j))
    {k : Nat} (hk : k < n) (he : hh (E k) ≠ 0) (j : Nat) (hj : j < n) (n1 : j ≠ k) (n2 : j ≠ k + 1) (n3 : k + 1 = n → j ≠ 0) : cr (E k) (w k) < cr (E k) (w j) := by
  generalize hee : E k = e at he
  have step : ∀ i, i < n → cr e (w (i + 1)) = cr e (w i) + cr e (E i) := fun i hi => by rw [hw i hi, cr_sb]; omega
  have hc' : cr e (w n) = cr e (w 0) := by rw [hc]
  have hkk : cr e (w (k + 1)) = cr e (w k) := by rw [step k hk, hee, cr_self]; omega
  rcases Int.lt_or_gt_of_ne he with hn | hp
  · have A : ∀ i, k < i → i < n → 0 < cr e (E i) := fun i a b => by
      have := hs k i a b; rw [hee] at this; unfold An at this; omega
    have B : ∀ i m, i < m → m < k → 0 ≤ cr e (E m) → 0 < cr e (E i) := fun i m a b h => by
      have x := hs m k b hk
      have y := hs i m a (by omega)
      have z := cr_neg e (E m)
      rw [hee] at x
      unfold An at x
      unfold An at y
      exact left_was hn (a := E i) (b := E m) (by omega) (by omega) (by omega) (by omega)
    have hup : ∀ b, k + 1 < b → b ≤ n → cr e (w k) < cr e (w b) := fun b a1 a2 => by
      have := risesS (G := fun i => cr e (w i)) (a := k + 1) b a1 (fun i h3 h4 => by
        have := step i (by omega); have := A i (by omega) (by omega); omega)
      have := this
      omega
    rcases Nat.lt_or_ge j k with hjk | hjk
    · by_cases hall : ∀ i, j ≤ i → i < k → cr e (E i) < 0
      · exact fallsS (G := fun i => cr e (w i)) k (by omega) (fun i h3 h4 => by have := step i (by omega); have := hall i h3 h4; omega)
      · obtain ⟨i, hi⟩ := Classical.not_forall.1 hall
        simp only [Classical.not_imp] at hi
        obtain ⟨i1, i2, i3⟩ := hi
        have h0 : cr e (w k) ≤ cr e (w 0) := by
          rcases Nat.lt_or_ge (k + 1) n with h | h
          · have := hup n h (Nat.le_refl _); omega
          · have : k + 1 = n := by omega
            rw [← hc', ← this]; omega
        rcases Nat.eq_zero_or_pos j with hj0 | hj0
        · subst hj0
          rcases Nat.lt_or_ge (k + 1) n with h | h
          · have := hup n h (Nat.le_refl _); omega
          · exact absurd rfl (n3 (by omega))
        · have := risesS (G := fun i => cr e (w i)) (a := 0) j hj0 (fun m h3 h4 => by
            have := step m (by omega); have := B m i (by omega) i2 (by omega); omega)
          have := this
          omega
    · exact hup j (by omega) (by omega)
  · have A : ∀ i, i < k → cr e (E i) < 0 := fun i a => by
      have := hs i k a hk; rw [hee] at this; have := cr_neg e (E i); unfold An at *; omega
    have B : ∀ i m, k < i → i < m → m < n → cr e (E i) ≤ 0 → cr e (E m) < 0 := fun i m a b c h => by
      have x := hs k i a (by omega)
      have y := hs i m b c
      rw [hee] at x
      unfold An at x
      unfold An at y
      exact right_stays hp (a := E i) (b := E m) (by omega) (by omega) (by omega) (by omega)
    have hdn : ∀ b, b ≤ k → cr e (w k) ≤ cr e (w b) := fun b a1 => falls (G := fun i => cr e (w i)) k a1 (fun i h3 h4 => by
      have := step i (by omega); have := A i h4; omega)
    rcases Nat.lt_or_ge j k with hjk | hjk
    · exact fallsS (G := fun i => cr e (w i)) k hjk (fun i h3 h4 => by have := step i (by omega); have := A i h4; omega)
    · by_cases hall : ∀ i, k + 1 ≤ i → i < j → 0 < cr e (E i)
      · have := risesS (G := fun i => cr e (w i)) (a := k + 1) j (by omega) (fun i h3 h4 => by have := step i (by omega); have := hall i h3 h4; omega)
        have := this
        omega
      · obtain ⟨i, hi⟩ := Classical.not_forall.1 hall
        simp only [Classical.not_imp] at hi
        obtain ⟨i1, i2, i3⟩ := hi
        have := fallsS (G := fun i => cr e (w i)) (a := j) n hj (fun m h3 h4 => by
          have := step m (by omega); have := B i m (by omega) (by omega) h4 (by omega); omega)
        have := hdn 0 (Nat.zero_le _)
        skip
        omega

/-! polygons -/
def vt (p : List Pt) (k : Nat) : Pt := nth p (k % p.length)
def E (p : List Pt) (k : Nat) : Pt := sb (vt p (k + 1)) (vt p k)

theorem vt_lt {p : List Pt} {k : Nat} (h : k < p.length) : vt p k = nth p k := by unfold vt; rw [Nat.mod_eq_of_lt h]
theorem vt_n (p : List Pt) : vt p p.length = vt p 0 := by unfold vt; rw [Nat.mod_self, Nat.zero_mod]
theorem vt_nx (p : List Pt) (k : Nat) : vt p (k + 1) = nx p k := rfl
theorem E_eq {p : List Pt} {k : Nat} (h : k < p.length) : E p k = sb (nx p k) (nth p k) := by unfold E; rw [vt_nx, vt_lt h]
theorem side_E {p : List Pt} {k : Nat} (h : k < p.length) (x : Pt) : side p x k = cr (E p k) x - cr (E p k) (vt p k) := by
  unfold side; rw [trn_cr, ← E_eq h, cr_sb, vt_lt h]

structure Sr (p : List Pt) : Prop where
  len : 3 ≤ p.length
  ne : ∀ k, k < p.length → hh (E p k) ≠ 0
  srt : ∀ i j, i < j → j < p.length → An (E p i) (E p j)

structure CV (p : List Pt) : Prop where
  len : 3 ≤ p.length
  left : ∀ k j, k < p.length → j < p.length → j ≠ k → j ≠ (k + 1) % p.length → 0 < side p (nth p j) k
  low : ∀ j, 0 < j → j < p.length → hh (nth p 0) < hh (nth p j)

theorem Sr.supp {p : List Pt} (h : Sr p) {e : Pt} (he : hh e ≠ 0) {k : Nat} (hk : k ≤ p.length) (h1 : ∀ i, i < k → Ae (E p i) e) (h2 : ∀ i, k ≤ i → i < p.length → Ae e (E p i)) (j : Nat) (hj : j ≤ p.length) : cr e (vt p k) ≤ cr e (vt p j) :=
  V.supp (E := E p) (w := vt p) (fun i _ => rfl) (vt_n p) h.srt he hk h1 h2 j hj

/-- the edges first rise, then fall -/
theorem Sr.stays {p : List Pt} (h : Sr p) {i j : Nat} (hij : i ≤ j) (hj : j < p.length) (hi : hh (E p i) < 0) : hh (E p j) < 0 := by
  rcases Nat.lt_or_eq_of_le hij with h1 | rfl
  · have := h.srt i j h1 hj; unfold An at this; omega
  · exact hi

theorem hh_step (p : List Pt) (i : Nat) : hh (vt p (i + 1)) = hh (vt p i) + hh (E p i) := by unfold E; rw [hh_sb]; omega

theorem Sr.low {p : List Pt} (h : Sr p) (j : Nat) (h0 : 0 < j) (hj : j < p.length) : hh (nth p 0) < hh (nth p j) := by
  rw [← vt_lt hj, ← vt_lt (by omega : 0 < p.length)]
  by_cases hall : ∀ i, 0 ≤ i → i < j → 0 < hh (E p i)
  · exact risesS (G := fun i => hh (vt p i)) j h0 (fun i h3 h4 => by have := hh_step p i; have := hall i h3 h4; omega)
  · obtain ⟨i, hi⟩ := Classical.not_forall.1 hall
    simp only [Classical.not_imp] at hi
    obtain ⟨i1, i2, i3⟩ := hi
    have h4 := h.ne i (by omega)
    have := fallsS (G := fun i => hh (vt p i)) (a := j) p.length hj (fun m h5 h6 => by
      have := hh_step p m; have := h.stays (i := i) (j := m) (by omega) h6 (by omega); omega)
    have := this
    rw [vt_n] at this
    exact this

theorem Sr.cv {p : List Pt} (h : Sr p) : CV p := by
  refine ⟨h.len, fun k j hk hj n1 n2 => ?_, h.low⟩
  rw [side_E hk, ← vt_lt hj]
  have hl := h.len
  have := suppS (E := E p) (w := vt p) (fun i _ => rfl) (vt_n p) h.srt hk (h.ne k hk) j hj n1 (fun e => by
      subst e; rw [Nat.mod_eq_of_lt hj] at n2; exact n2 rfl) (fun e e0 => by
      subst e0; rw [e, Nat.mod_self] at n2; exact n2 rfl)
  omega

/-- the turn at a vertex -/
theorem CV.turn {p : List Pt} (h : CV p) {k : Nat} (hk : k < p.length) : 0 < cr (E p k) (E p ((k + 1) % p.length)) := by
  have hl := h.len
  have hk1 : (k + 1) % p.length < p.length := Nat.mod_lt _ (by omega)
  have hk2 : ((k + 1) % p.length + 1) % p.length < p.length := Nat.mod_lt _ (by omega)
  have key := h.left k (((k + 1) % p.length + 1) % p.length) hk hk2 (fun e => by
      rcases Nat.lt_or_ge (k + 1) p.length with a | a
      · rw [Nat.mod_eq_of_lt a] at e
        rcases Nat.lt_or_ge (k + 1 + 1) p.length with b | b
        · rw [Nat.mod_eq_of_lt b] at e; omega
        · have : k + 1 + 1 = p.length := by omega
          rw [this, Nat.mod_self] at e; omega
      · have : k + 1 = p.length := by omega
        rw [this, Nat.mod_self, Nat.mod_eq_of_lt (by omega)] at e; omega) (fun e => by
      rcases Nat.lt_or_ge ((k + 1) % p.length + 1) p.length with b | b
      · rw [Nat.mod_eq_of_lt b] at e; omega
      · have : (k + 1) % p.length + 1 = p.length := by omega
        rw [this, Nat.mod_self] at e; omega)
  rw [side_E hk] at key
  have e1 : E p ((k + 1) % p.length) = sb (nth p (((k + 1) % p.length + 1) % p.length)) (vt p (k + 1)) := by
    rw [E_eq hk1]; rfl
  have e2 : cr (E p k) (vt p (k + 1)) = cr (E p k) (vt p k) := by
    have : cr (E p k) (E p k) = 0 := cr_self _
    have e3 : cr (E p k) (E p k) = cr (E p k) (vt p (k + 1)) - cr (E p k) (vt p k) := by
      conv => lhs; arg 2; unfold E
      rw [cr_sb]
    omega
  rw [e1, cr_sb, e2]
  omega

/-- short edges do not lie on the border of the halves -/
theorem ne_of_hh {a b : Pt} (h : a ≠ b) (h1 : -1000000 < a.1 - b.1) (h2 : a.1 - b.1 < 1000000) : hh (sb a b) ≠ 0 := by
  rw [hh_sb]
  unfold hh
  intro e
  apply h
  have e1 : a.2 = b.2 := by omega
  have e2 : a.1 = b.1 := by omega
  exact Prod.ext e2 e1

/-- the points lie near each other -/
def Near (p : List Pt) : Prop := ∀ a ∈ p, ∀ b ∈ p, -1000000 < a.1 - b.1 ∧ a.1 - b.1 < 1000000

theorem CV.sr {p : List Pt} (h : CV p) (hb : Near p) : Sr p := by
  have hl := h.len
  have hvm : ∀ k, vt p k ∈ p := fun k => nth_mem (Nat.mod_lt _ (by omega))
  have ne : ∀ k, k < p.length → hh (E p k) ≠ 0 := fun k hk => by
    refine ne_of_hh (fun e => ?_) (hb _ (hvm _) _ (hvm _)).1 (hb _ (hvm _) _ (hvm _)).2
    have := h.turn hk
    have e0 : E p k = (0, 0) := by unfold E sb; rw [e]; simp
    rw [e0] at this
    unfold cr at this
    simp at this
  have turn : ∀ i, i + 1 < p.length → 0 < cr (E p i) (E p (i + 1)) := fun i hi => by
    have := h.turn (k := i) (by omega)
    rw [Nat.mod_eq_of_lt hi] at this
    exact this
  have loc : ∀ i, i + 1 < p.length → hh (E p i) < 0 → hh (E p (i + 1)) < 0 := fun i hi hn => by
    have h2 := ne (i + 1) hi
    refine Int.lt_of_not_ge fun hge => ?_
    -- the vertex between would be a lowest one
    have k1 : ∀ k, k < p.length → cr (E p k) (vt p k) ≤ cr (E p k) (vt p 0) := fun k hk => by
      by_cases h3 : 0 = k
      · subst h3; exact Int.le_refl _
      by_cases h4 : 0 = (k + 1) % p.length
      · have : vt p 0 = vt p (k + 1) := by unfold vt; rw [← h4, Nat.zero_mod]
        rw [this]
        have : cr (E p k) (E p k) = 0 := cr_self _
        have e3 : cr (E p k) (E p k) = cr (E p k) (vt p (k + 1)) - cr (E p k) (vt p k) := by
          conv => lhs; arg 2; unfold E
          rw [cr_sb]
        omega
      · have := h.left k 0 hk (by omega) h3 h4
        rw [side_E hk, ← vt_lt (by omega : 0 < p.length)] at this
        omega
    have a1 := k1 i (by omega)
    have a2 := k1 (i + 1) hi
    have e2 : cr (E p i) (vt p (i + 1)) = cr (E p i) (vt p i) := by
      have : cr (E p i) (E p i) = 0 := cr_self _
      have e3 : cr (E p i) (E p i) = cr (E p i) (vt p (i + 1)) - cr (E p i) (vt p i) := by
        conv => lhs; arg 2; unfold E
        rw [cr_sb]
      omega
    have t := turn i hi
    have pk := pluck (E p i) (E p (i + 1)) (sb (vt p 0) (vt p (i + 1)))
    rw [cr_neg (E p i) (sb _ _), cr_sb, cr_sb, hh_sb] at pk
    have hlow := h.low (i + 1) (by omega) hi
    rw [← vt_lt hi, ← vt_lt (by omega : 0 < p.length)] at hlow
    have b1 := mpn t (show hh (vt p 0) - hh (vt p (i + 1)) < 0 by omega)
    have b2 := npn (show 0 ≤ cr (E p (i + 1)) (vt p 0) - cr (E p (i + 1)) (vt p (i + 1)) by omega) (Int.le_of_lt hn)
    have b3 := nnp (show -(cr (E p i) (vt p 0) - cr (E p i) (vt p (i + 1))) ≤ 0 by omega) hge
    omega
  refine ⟨hl, ne, ?_⟩
  have con : ∀ i, i + 1 < p.length → An (E p i) (E p (i + 1)) := fun i hi => by
    have a1 := ne i (by omega)
    have a2 := ne (i + 1) hi
    have a3 := turn i hi
    have a4 := loc i hi
    unfold An
    omega
  intro i j hij
  induction j with
  | zero => omega
  | succ j ih =>
    intro hj
    rcases Nat.lt_or_eq_of_le (Nat.le_of_lt_succ hij) with h1 | h1
    · exact (ih h1 (by omega)).trans (con j hj)
    · subst h1; exact con i hj

end Go.Proofs.Ytjmklbkcpjmcaaa.V

namespace Go.Proofs.Ytjmklbkcpjmcaaa.V
open Go Go.RowKit Go.Proofs.Ytjmklbkcpjmcaaa.H
set_option linter.unusedVariables false
set_option linter.unusedSimpArgs false

/-- a stack, from its top, that turns left -/
def LT : List Pt → Prop
  | c :: b :: a :: r => 0 < trn a b c ∧ LT (b :: a :: r)
  | _ => True
/-- a stack, from its top, that has a point on its left -/
def Lf (x : Pt) : List Pt → Prop
  | b :: a :: r => 0 ≤ trn a b x ∧ Lf x (a :: r)
  | _ => True
def Dec (l : List Pt) : Prop := l.Pairwise (fun a b => hh b < hh a)

theorem LT.tail {x : Pt} : ∀ {l : List Pt}, LT (x :: l) → LT l
  | [], _ => trivial
  | [a], _ => trivial
  | a :: b :: r, h => h.2
theorem Lf.tail {x y : Pt} : ∀ {l : List Pt}, Lf x (y :: l) → Lf x l
  | [], _ => trivial
  | a :: r, h => h.2
theorem popR_LT (v : Pt) : ∀ l : List Pt, LT l → LT (popR v l) ∧ LT (v :: popR v l)
  | [], _ => ⟨trivial, trivial⟩
  | [x], _ => ⟨trivial, trivial⟩
  | b :: a :: r, h => by
    have ih := popR_LT v (a :: r) h.tail
    unfold popR
    split
    · exact ih
    · next hn => exact ⟨h, by omega, h⟩
theorem chainR_LT : ∀ (l acc : List Pt), LT acc → LT (chainR acc l)
  | [], acc, h => h
  | v :: l, acc, h => by rw [chainR]; exact chainR_LT l _ (popR_LT v acc h).2
theorem chainR_sub : ∀ (l acc : List Pt), (chainR acc l).Sublist (l.reverse ++ acc)
  | [], acc => by simp [chainR]
  | v :: l, acc => by
    rw [chainR]
    refine (chainR_sub l _).trans ?_
    rw [List.reverse_cons, List.append_assoc]
    exact List.Sublist.append_left ((popR_sub v acc).cons_cons v) _
theorem popR_last (v : Pt) : ∀ l : List Pt, (popR v l).getLast? = l.getLast?
  | [] => rfl
  | [x] => rfl
  | b :: a :: r => by
    have ih := popR_last v (a :: r)
    unfold popR
    split
    · rw [ih]; simp [List.getLast?_cons]
    · rfl
theorem chainR_last : ∀ (l acc : List Pt), acc ≠ [] → (chainR acc l).getLast? = acc.getLast?
  | [], acc, _ => rfl
  | v :: l, acc, h => by
    rw [chainR, chainR_last l _ (by simp), ← popR_last v acc]
    have : popR v acc ≠ [] := fun e => h (by have := popR_last v acc; rw [e] at this; simpa using this.symm)
    obtain ⟨y, ys, e⟩ := List.exists_cons_of_ne_nil this
    rw [e]; simp [List.getLast?_cons]
theorem chainR_last0 (v : Pt) (l : List Pt) : (chainR [] (v :: l)).getLast? = some v := by
  rw [chainR, chainR_last l _ (by simp)]; rfl
theorem chainR_head : ∀ (l acc : List Pt) (v : Pt), (chainR acc (l ++ [v])).head? = some v
  | [], acc, v => rfl
  | x :: l, acc, v => by rw [List.cons_append, chainR]; exact chainR_head l _ v

/-! all points lie on the left -/
theorem popLf (v x : Pt) : ∀ (t : Pt) (acc : List Pt), Dec (v :: t :: acc) → Lf x (t :: acc) → (hh x ≤ hh t ∨ 0 ≤ trn t v x) → (∀ y, (t :: acc).getLast? = some y → x = y ∨ hh y < hh x) → Lf x (v :: popR v (t :: acc))
  | s, [], hd, hl, h, hb => by
    unfold popR
    refine ⟨?_, trivial⟩
    rcases h with h | h
    · rcases hb s rfl with rfl | h2
      · rw [trn_cr, cr_sb]; omega
      · omega
    · exact h
  | b, a :: r, hd, hl, h, hb => by
    have hd1 : hh a < hh b ∧ hh b < hh v ∧ hh a < hh v := by
      unfold Dec at hd; simp only [List.pairwise_cons, List.mem_cons] at hd
      exact ⟨hd.2.1 a (.inl rfl), hd.1 b (.inl rfl), hd.1 a (.inr (.inl rfl))⟩
    have hab := hl.1
    rw [trn_cr] at hab
    unfold popR
    split
    · next hp =>
      refine popLf v x a r ?_ hl.2 ?_ (fun y hy => hb y (by simpa [List.getLast?_cons] using hy))
      · unfold Dec at hd ⊢; simp only [List.pairwise_cons, List.mem_cons] at hd ⊢
        exact ⟨fun y hy => hd.1 y (.inr hy), hd.2.2⟩
      · rcases Int.lt_or_le (hh a) (hh x) with h2 | h2
        · refine .inr ?_
          rw [trn_cr] at hp ⊢
          have e := cr_neg (sb v a) (sb b a)
          exact up_trans_e (a := sb v a) (b := sb b a) (c := sb x a) (by rw [hh_sb]; omega) (by rw [hh_sb]; omega) (by rw [hh_sb]; omega) (by omega) hab
        · exact .inl h2
    · next hp =>
      refine ⟨?_, hl⟩
      rcases h with h | h
      · rw [trn_cr] at hp ⊢
        have hp' : 0 < cr (sb b a) (sb v b) := by
          have e : cr (sb b a) (sb v a) = cr (sb b a) (sb v b) := by unfold cr sb; grind
          omega
        have hab' : 0 ≤ cr (sb b a) (sb x b) := by
          have e : cr (sb b a) (sb x a) = cr (sb b a) (sb x b) := by unfold cr sb; grind
          omega
        have pk := pluck (sb b a) (sb v b) (sb x b)
        rw [cr_neg (sb b a) (sb x b), hh_sb x b, hh_sb b a, hh_sb v b] at pk
        have e1 := npn (Int.le_of_lt hp') (show hh x - hh b ≤ 0 by omega)
        have e2 := nnp (show -cr (sb b a) (sb x b) ≤ 0 by omega) (show 0 ≤ hh v - hh b by omega)
        exact fnon (b := hh b - hh a) (by omega) (by omega)
      · exact h

theorem left_below (v : Pt) : ∀ (b a : Pt) (r : List Pt), Dec (v :: b :: a :: r) → LT (b :: a :: r) → 0 < trn a b v → Lf v (b :: a :: r)
  | b, a, [], hd, hl, h => ⟨Int.le_of_lt h, trivial⟩
  | b, a, a' :: r, hd, hl, h => by
    have hd1 : hh a < hh b ∧ hh b < hh v ∧ hh a < hh v ∧ hh a' < hh a := by
      unfold Dec at hd; simp only [List.pairwise_cons, List.mem_cons] at hd
      exact ⟨hd.2.1 a (.inl rfl), hd.1 b (.inl rfl), hd.1 a (.inr (.inl rfl)), hd.2.2.1 a' (.inl rfl)⟩
    refine ⟨Int.le_of_lt h, left_below v a a' r ?_ hl.2 ?_⟩
    · unfold Dec at hd ⊢; simp only [List.pairwise_cons, List.mem_cons] at hd ⊢
      exact ⟨fun y hy => hd.1 y (.inr hy), hd.2.2⟩
    · have h1 := hl.1
      rw [trn_cr] at h h1 ⊢
      have e1 : cr (sb a a') (sb b a') = cr (sb a a') (sb b a) := by unfold cr sb; grind
      have e2 : cr (sb b a) (sb v a) = cr (sb b a) (sb v b) := by unfold cr sb; grind
      have e3 : cr (sb a a') (sb v a') = cr (sb a a') (sb b a) + cr (sb a a') (sb v b) := by unfold cr sb; grind
      have := up_trans (a := sb a a') (b := sb b a) (c := sb v b) (by rw [hh_sb]; omega) (by rw [hh_sb]; omega) (by rw [hh_sb]; omega) (by omega) (by omega)
      omega

theorem popR_cases (v : Pt) : ∀ (t : Pt) (acc : List Pt), (∃ s, popR v (t :: acc) = [s]) ∨ ∃ b a r, popR v (t :: acc) = b :: a :: r ∧ 0 < trn a b v
  | s, [] => .inl ⟨s, rfl⟩
  | b, a :: r => by
    unfold popR
    split
    · exact popR_cases v a r
    · next h => exact .inr ⟨b, a, r, rfl, by omega⟩

theorem Dec.sub {l l' : List Pt} (h : Dec l) (hs : l'.Sublist l) : Dec l' := List.Pairwise.sublist hs h

theorem chainR_left : ∀ (l acc : List Pt) (t : Pt) (X : Pt → Prop), LT (t :: acc) → Dec (t :: acc) → (∀ x, X x → Lf x (t :: acc) ∧ hh x ≤ hh t ∧ ∀ y, (t :: acc).getLast? = some y → x = y ∨ hh y < hh x) → (t :: l).Pairwise (fun a b => hh a < hh b) →
    ∀ x, X x ∨ x ∈ l → Lf x (chainR (t :: acc) l)
  | [], acc, t, X, h1, h2, h3, h4, x, hx => by
    rcases hx with hx | hx
    · exact (h3 x hx).1
    · cases hx
  | v :: l, acc, t, X, h1, h2, h3, h4, x, hx => by
    rw [chainR]
    simp only [List.pairwise_cons, List.mem_cons] at h4
    have htv : hh t < hh v := h4.1 v (.inl rfl)
    have hdv : Dec (v :: t :: acc) := by
      unfold Dec at h2 ⊢
      rw [List.pairwise_cons]
      refine ⟨fun y hy => ?_, h2⟩
      rcases List.mem_cons.1 hy with rfl | hy
      · exact htv
      · have := (List.pairwise_cons.1 h2).1 y hy; omega
    have hlast : ∀ y, (v :: popR v (t :: acc)).getLast? = some y → (t :: acc).getLast? = some y := fun y hy => by
      rw [← popR_last v]
      rcases popR_cases v t acc with ⟨s, e⟩ | ⟨b, a, r, e, _⟩ <;> rw [e] at hy ⊢ <;> simpa [List.getLast?_cons] using hy
    refine chainR_left l (popR v (t :: acc)) v (fun x => X x ∨ x = v) (popR_LT v _ h1).2 (hdv.sub ((popR_sub v _).cons_cons v)) ?_ (List.pairwise_cons.2 h4.2) x ?_
    · rintro z (hz | rfl)
      · obtain ⟨z1, z2, z3⟩ := h3 z hz
        exact ⟨popLf v z t acc hdv z1 (.inl z2) z3, by omega, fun y hy => z3 y (hlast y hy)⟩
      · refine ⟨?_, Int.le_refl _, fun y hy => ?_⟩
        · rcases popR_cases z t acc with ⟨s, e⟩ | ⟨b, a, r, e, e2⟩
          · rw [e]
            refine ⟨?_, trivial⟩
            rw [trn_cr, cr_self]; exact Int.le_refl _
          · have hd3 := hdv.sub ((popR_sub z (t :: acc)).cons_cons z)
            have hl3 := (popR_LT z _ h1).1
            rw [e] at hd3 hl3 ⊢
            refine ⟨?_, left_below z b a r hd3 hl3 e2⟩
            rw [trn_cr, cr_self]; exact Int.le_refl _
        · have := List.mem_of_getLast? (hlast y hy)
          exact .inr ((List.pairwise_cons.1 hdv).1 y this)
    · rcases hx with hx | hx
      · exact .inl (.inl hx)
      · rcases List.mem_cons.1 hx with rfl | hx
        · exact .inl (.inr rfl)
        · exact .inr hx

theorem chain_left {L : List Pt} (h : L.Pairwise (fun a b => hh a < hh b)) (x : Pt) (hx : x ∈ L) : Lf x (chainR [] L) := by
  cases L with
  | nil => cases hx
  | cons v l =>
    rw [chainR]
    refine chainR_left l [] v (fun x => x = v) trivial (List.pairwise_singleton _ _) ?_ h x (List.mem_cons.1 hx)
    rintro z rfl
    exact ⟨trivial, Int.le_refl _, fun y hy => .inl (by simpa using hy)⟩

/-! there is just one -/
theorem dec_one {c : Pt} {l : List Pt} (h : Dec (c :: l)) (hl : (c :: l).getLast? = some c) : l = [] := by
  cases l with
  | nil => rfl
  | cons b r =>
    have : c ∈ b :: r := List.mem_of_getLast? (by simpa [List.getLast?_cons] using hl)
    have := (List.pairwise_cons.1 h).1 c this
    omega

theorem last_low : ∀ {l : List Pt}, Dec l → ∀ {y : Pt}, l.getLast? = some y → ∀ x ∈ l, hh y ≤ hh x
  | [], _, y, hy, x, hx => by cases hx
  | [a], _, y, hy, x, hx => by simp at hy hx; subst hy hx; exact Int.le_refl _
  | a :: b :: l, h, y, hy, x, hx => by
    have hy' : (b :: l).getLast? = some y := by simpa [List.getLast?_cons] using hy
    rcases List.mem_cons.1 hx with rfl | hx
    · have := (List.pairwise_cons.1 h).1 y (List.mem_of_getLast? hy'); omega
    · exact last_low (List.pairwise_cons.1 h).2 hy' x hx

theorem near_top {c b b' : Pt} {r r' : List Pt} (hd : Dec (c :: b :: r)) (hl : LT (c :: b :: r)) (hd' : Dec (c :: b' :: r')) (hlast : (c :: b :: r).getLast? = (c :: b' :: r').getLast?)
    (h1 : Lf b' (c :: b :: r)) (hcr : cr (sb c b) (sb c b') = 0) : ¬ hh b' < hh b := by
  intro hlt
  have hcb : hh b < hh c := (List.pairwise_cons.1 hd).1 b (by simp)
  cases r with
  | nil =>
    have e : (c :: b' :: r').getLast? = some b := by rw [← hlast]; rfl
    have := last_low hd' e b' (by simp)
    omega
  | cons a r =>
    have hba : hh a < hh b := (List.pairwise_cons.1 (List.pairwise_cons.1 hd).2).1 a (by simp)
    have t1 := hl.1
    have t2 := h1.2.1
    rw [trn_cr] at t1 t2
    have e1 : cr (sb b a) (sb c a) = cr (sb b a) (sb c b) := by unfold cr sb; grind
    have e2 : cr (sb b a) (sb b' a) = - cr (sb b a) (sb b b') := by unfold cr sb; grind
    have e3 : cr (sb c b) (sb c b') = cr (sb c b) (sb b b') := by unfold cr sb; grind
    have pk := pluck (sb b a) (sb c b) (sb b b')
    rw [show cr (sb c b) (sb b b') = 0 by omega, Int.zero_mul, cr_neg (sb b a) (sb b b'), hh_sb, hh_sb c b] at pk
    have k1 := mpp (show 0 < cr (sb b a) (sb c b) by omega) (show 0 < hh b - hh b' by omega)
    have k2 := npp (show 0 ≤ -cr (sb b a) (sb b b') by omega) (show 0 ≤ hh c - hh b by omega)
    omega

theorem chain_unique : ∀ (R R' : List Pt), Dec R → Dec R' → LT R → LT R' → R ≠ [] → R.head? = R'.head? → R.getLast? = R'.getLast? → (∀ x ∈ R', Lf x R) → (∀ x ∈ R, Lf x R') → R = R'
  | [], _, _, _, _, _, h, _, _, _, _ => absurd rfl h
  | c :: T, [], _, _, _, _, _, h, _, _, _ => by cases h
  | c :: T, c' :: T', d, d', l, l', _, h, e, h1, h2 => by
    simp only [List.head?_cons, Option.some.injEq] at h
    subst h
    cases T with
    | nil =>
      have : (c :: T').getLast? = some c := by rw [← e]; rfl
      rw [dec_one d' this]
    | cons b r =>
      cases T' with
      | nil =>
        have : (c :: b :: r).getLast? = some c := by rw [e]; rfl
        exact absurd (dec_one d this) (by simp)
      | cons b' r' =>
        have hb : hh b < hh c := (List.pairwise_cons.1 d).1 b (by simp)
        have hb' : hh b' < hh c := (List.pairwise_cons.1 d').1 b' (by simp)
        have k1 := (h1 b' (by simp)).1
        have k2 := (h2 b (by simp)).1
        rw [trn_cr] at k1 k2
        have f1 : cr (sb c b) (sb b' b) = - cr (sb c b) (sb c b') := by unfold cr sb; grind
        have f2 : cr (sb c b') (sb b b') = cr (sb c b) (sb c b') := by unfold cr sb; grind
        have hcr : cr (sb c b) (sb c b') = 0 := by omega
        have n1 := near_top d l d' e (h1 b' (by simp)) hcr
        have n2 := near_top d' l' d e.symm (h2 b (by simp)) (by rw [cr_neg]; omega)
        have hbb : b = b' := by
          have eh : hh b = hh b' := by omega
          have g1 : cr (sb c b) (sb c b') = (b.2 - b'.2) * hh (sb c b) := by
            have : c.1 - b'.1 = c.1 - b.1 + 1000000 * (b'.2 - b.2) := by unfold hh at eh; omega
            unfold cr hh sb; simp only; rw [this]; grind
          rw [hcr] at g1
          have g2 : hh (sb c b) ≠ 0 := by rw [hh_sb]; omega
          have g3 : b.2 - b'.2 = 0 := by
            rcases Int.mul_eq_zero.1 g1.symm with h | h
            · exact h
            · exact absurd h g2
          unfold hh at eh
          exact Prod.ext (by omega) (by omega)
        subst hbb
        congr 1
        refine chain_unique (b :: r) (b :: r') (List.pairwise_cons.1 d).2 (List.pairwise_cons.1 d').2 l.tail l'.tail (by simp) rfl ?_ (fun x hx => (h1 x (List.mem_cons_of_mem _ hx)).tail) (fun x hx => (h2 x (List.mem_cons_of_mem _ hx)).tail)
        simpa [List.getLast?_cons] using e

end Go.Proofs.Ytjmklbkcpjmcaaa.V

namespace Go.Proofs.Ytjmklbkcpjmcaaa.V
open Go Go.RowKit Go.Proofs.Ytjmklbkcpjmcaaa.H
set_option linter.unusedVariables false
set_option linter.unusedSimpArgs false

/-- vertices a .. a + k, the last one on top -/
def rseg (p : List Pt) (a : Nat) : Nat → List Pt
  | 0 => [vt p a]
  | k + 1 => vt p (a + k + 1) :: rseg p a k

theorem rseg_len (p : List Pt) (a : Nat) : ∀ k, (rseg p a k).length = k + 1
  | 0 => rfl
  | k + 1 => by rw [rseg, List.length_cons, rseg_len p a k]
theorem rseg_head (p : List Pt) (a : Nat) : ∀ k, (rseg p a k).head? = some (vt p (a + k))
  | 0 => rfl
  | k + 1 => rfl
theorem rseg_last (p : List Pt) (a : Nat) : ∀ k, (rseg p a k).getLast? = some (vt p a)
  | 0 => rfl
  | k + 1 => by
    have := rseg_last p a k
    rw [rseg, List.getLast?_cons, this]; rfl
theorem rseg_mem (p : List Pt) (a : Nat) {x : Pt} : ∀ k, x ∈ rseg p a k ↔ ∃ i, i ≤ k ∧ x = vt p (a + i)
  | 0 => by
    simp only [rseg, List.mem_singleton]
    refine ⟨fun h => ⟨0, Nat.le_refl _, h⟩, fun ⟨i, h1, h2⟩ => ?_⟩
    have : i = 0 := by omega
    subst this; exact h2
  | k + 1 => by
    rw [rseg, List.mem_cons, rseg_mem p a k]
    constructor
    · rintro (h | ⟨i, h1, h2⟩)
      · exact ⟨k + 1, Nat.le_refl _, h⟩
      · exact ⟨i, by omega, h2⟩
    · rintro ⟨i, h1, h2⟩
      rcases Nat.lt_or_eq_of_le h1 with h | h
      · exact .inr ⟨i, by omega, h2⟩
      · subst h; exact .inl h2
theorem rseg_rev (p : List Pt) (a : Nat) : ∀ k, (rseg p a k).reverse = (List.range (k + 1)).map (fun i => vt p (a + i))
  | 0 => by simp [rseg, List.range_succ]
  | k + 1 => by rw [rseg, List.reverse_cons, rseg_rev p a k, List.range_succ (n := k + 1), List.map_append]; rfl
theorem rseg_lt (p : List Pt) (a : Nat) : ∀ k, LT (rseg p a k) ↔ ∀ i, i + 2 ≤ k → 0 < trn (vt p (a + i)) (vt p (a + i + 1)) (vt p (a + i + 2))
  | 0 => ⟨fun _ i h => by omega, fun _ => trivial⟩
  | 1 => ⟨fun _ i h => by omega, fun _ => trivial⟩
  | k + 2 => by
    have ih := rseg_lt p a (k + 1)
    have e : rseg p a (k + 2) = vt p (a + k + 2) :: rseg p a (k + 1) := rfl
    rw [e]
    cases k with
    | zero =>
      constructor
      · intro h i hi
        have : i = 0 := by omega
        subst this; exact h.1
      · intro h; exact ⟨h 0 (by omega), trivial⟩
    | succ k =>
      constructor
      · intro h i hi
        rcases Nat.lt_or_eq_of_le hi with h1 | h1
        · exact ih.1 h.2 i (by omega)
        · have : i = k + 1 := by omega
          subst this; exact h.1
      · intro h; exact ⟨h (k + 1) (by omega), ih.2 fun i hi => h i (by omega)⟩
theorem rseg_lf (p : List Pt) (a : Nat) (x : Pt) : ∀ k, Lf x (rseg p a k) ↔ ∀ i, i < k → 0 ≤ trn (vt p (a + i)) (vt p (a + i + 1)) x
  | 0 => ⟨fun _ i h => by omega, fun _ => trivial⟩
  | k + 1 => by
    have ih := rseg_lf p a x k
    cases k with
    | zero =>
      constructor
      · intro h i hi
        have : i = 0 := by omega
        subst this; exact h.1
      · intro h; exact ⟨h 0 (by omega), trivial⟩
    | succ k =>
      constructor
      · intro h i hi
        rcases Nat.lt_or_eq_of_le (Nat.le_of_lt_succ hi) with h1 | h1
        · exact ih.1 h.2 i h1
        · subst h1; exact h.1
      · intro h; exact ⟨h (k + 1) (by omega), ih.2 fun i hi => h i (by omega)⟩
theorem rseg_dec (p : List Pt) (a : Nat) : ∀ k, Dec (rseg p a k) ↔ ∀ i, i < k → hh (vt p (a + i)) < hh (vt p (a + i + 1))
  | 0 => ⟨fun _ i h => by omega, fun _ => List.pairwise_singleton _ _⟩
  | k + 1 => by
    have ih := rseg_dec p a k
    have e : Dec (rseg p a (k + 1)) ↔ (∀ y ∈ rseg p a k, hh y < hh (vt p (a + k + 1))) ∧ Dec (rseg p a k) := by
      unfold Dec; rw [rseg, List.pairwise_cons]
    rw [e, ih]
    constructor
    · rintro ⟨h1, h2⟩ i hi
      rcases Nat.lt_or_eq_of_le (Nat.le_of_lt_succ hi) with h3 | h3
      · exact h2 i h3
      · subst h3; exact h1 _ ((rseg_mem p a i).2 ⟨i, Nat.le_refl _, rfl⟩)
    · intro h
      refine ⟨fun y hy => ?_, fun i hi => h i (by omega)⟩
      obtain ⟨i, hi, rfl⟩ := (rseg_mem p a k).1 hy
      exact risesS (G := fun i => hh (vt p (a + i))) (a := i) (k + 1) (by omega) (fun m h3 h4 => h m h4)
theorem rseg_eq {p R : List Pt} {a k : Nat} (hl : R.length = k + 1) (h : ∀ i, i ≤ k → R.reverse[i]? = some (vt p (a + i))) : R = rseg p a k := by
  have : R.reverse = (rseg p a k).reverse := by
    rw [rseg_rev]
    apply List.ext_getElem? 
    intro i
    rcases Nat.lt_or_ge i (k + 1) with h1 | h1
    · rw [h i (by omega)]; simp [h1]
    · rw [List.getElem?_eq_none (by simp; omega), List.getElem?_eq_none (by simp; omega)]
  simpa using congrArg List.reverse this

theorem list_vt (p : List Pt) : p = (List.range p.length).map (vt p) := by
  apply List.ext_getElem?
  intro i
  rcases Nat.lt_or_ge i p.length with h | h
  · rw [List.getElem?_eq_getElem h]; simp [h, vt_lt h, nth_get h]
  · rw [List.getElem?_eq_none h, List.getElem?_eq_none (by simpa using h)]

/-- the vertices in order are the two chains -/
theorem rseg_join (p : List Pt) {m : Nat} (h0 : 0 < m) (hm : m < p.length) : (rseg p 0 m).tail.reverse ++ (rseg p m (p.length - m)).tail.reverse = p := by
  obtain ⟨m', rfl⟩ : ∃ m', m = m' + 1 := ⟨m - 1, by omega⟩
  obtain ⟨d', hd⟩ : ∃ d', p.length - (m' + 1) = d' + 1 := ⟨p.length - (m' + 1) - 1, by omega⟩
  rw [hd, rseg, rseg, List.tail_cons, List.tail_cons, rseg_rev, rseg_rev]
  conv => rhs; rw [list_vt p]
  have : p.length = (m' + 1) + (d' + 1) := by omega
  rw [this, List.range_add (n := m' + 1) (m := d' + 1), List.map_append, List.map_map]
  have e : (List.range (m' + 1)).map (fun i => vt p (0 + i)) = (List.range (m' + 1)).map (vt p) := List.map_congr_left fun i _ => by rw [Nat.zero_add]
  rw [e]; rfl

theorem mem_vt {p : List Pt} {x : Pt} (h : x ∈ p) : ∃ i, i < p.length ∧ x = vt p i := by
  obtain ⟨i, hi, rfl⟩ := List.getElem_of_mem h
  exact ⟨i, hi, by rw [vt_lt hi, nth_get hi]⟩
theorem vt_mem {p : List Pt} (h : 0 < p.length) (k : Nat) : vt p k ∈ p := nth_mem (Nat.mod_lt _ h)

/-! from polygons to hulls -/
theorem trn_vNegG (a b c : Pt) : trn (vNeg a) (vNeg b) (vNeg c) = trn a b c := by
  rw [trn_cr, trn_cr]; unfold cr sb vNeg; grind
theorem hh_vNeg (a : Pt) : hh (vNeg a) = - hh a := by unfold hh vNeg; simp only; omega
theorem vNeg_vNeg (a : Pt) : vNeg (vNeg a) = a := by unfold vNeg; exact Prod.ext (by simp only; omega) (by simp only; omega)
theorem popR_neg (v : Pt) : ∀ l : List Pt, popR (vNeg v) (l.map vNeg) = (popR v l).map vNeg
  | [] => rfl
  | [x] => rfl
  | b :: a :: r => by
    have ih := popR_neg v (a :: r)
    simp only [List.map_cons] at ih ⊢
    unfold popR
    rw [trn_vNegG]
    by_cases h : trn a b v ≤ 0
    · rw [if_pos h, if_pos h]; exact ih
    · rw [if_neg h, if_neg h]; rfl
theorem chainR_neg : ∀ (l acc : List Pt), chainR (acc.map vNeg) (l.map vNeg) = (chainR acc l).map vNeg
  | [], acc => rfl
  | v :: l, acc => by
    have ih := chainR_neg l (v :: popR v acc)
    simp only [List.map_cons] at ih
    rw [List.map_cons, chainR, chainR, popR_neg, ih]
theorem LT_neg : ∀ {l : List Pt}, LT (l.map vNeg) ↔ LT l
  | [] => Iff.rfl
  | [a] => Iff.rfl
  | [a, b] => Iff.rfl
  | c :: b :: a :: r => by
    have ih := LT_neg (l := b :: a :: r)
    simp only [List.map_cons] at ih
    simp only [List.map_cons, LT, trn_vNegG]
    exact and_congr Iff.rfl ih
theorem Lf_neg {x : Pt} : ∀ {l : List Pt}, Lf (vNeg x) (l.map vNeg) ↔ Lf x l
  | [] => Iff.rfl
  | [a] => Iff.rfl
  | b :: a :: r => by
    have ih := Lf_neg (x := x) (l := a :: r)
    simp only [List.map_cons] at ih
    simp only [List.map_cons, Lf, trn_vNegG]
    exact and_congr Iff.rfl ih

theorem incr_head {L : List Pt} (h : L.Pairwise (fun a b => hh a < hh b)) {x y : Pt} (hx : L.head? = some x) (hy : y ∈ L) (hlow : ∀ z ∈ L, z = y ∨ hh y < hh z) : x = y := by
  cases L with
  | nil => cases hx
  | cons a l =>
    simp only [List.head?_cons, Option.some.injEq] at hx
    subst hx
    rcases List.mem_cons.1 hy with rfl | hy
    · rfl
    · have := (List.pairwise_cons.1 h).1 y hy
      rcases hlow a (by simp) with h1 | h1
      · exact h1
      · omega

theorem chain_eq {L R : List Pt} (h : L.Pairwise (fun a b => hh a < hh b)) (hne : L ≠ []) (hd : Dec R) (hl : LT R) (hmem : ∀ x ∈ R, x ∈ L) (hhead : R.head? = L.getLast?) (hlast : R.getLast? = L.head?) (hleft : ∀ x ∈ L, Lf x R) : chainR [] L = R := by
  have hsub := chainR_sub L []
  rw [List.append_nil] at hsub
  have hrev : Dec L.reverse := by unfold Dec; rw [List.pairwise_reverse]; exact h
  have hc : ∀ x ∈ chainR [] L, x ∈ L := fun x hx => by
    have := hsub.subset hx
    simpa using this
  refine chain_unique _ R (hrev.sub hsub) hd (chainR_LT L [] trivial) hl ?_ ?_ ?_ (fun x hx => chain_left h x (hmem x hx)) (fun x hx => hleft x (hc x hx))
  · have := chainR_ne L [] (by have := List.length_pos_iff.2 hne; simpa using this)
    intro e; rw [e] at this; cases this
  · obtain ⟨l, v, e⟩ : ∃ l v, L = l ++ [v] := ⟨L.dropLast, L.getLast hne, (List.dropLast_concat_getLast hne).symm⟩
    rw [hhead, e, chainR_head]; simp
  · cases L with
    | nil => exact absurd rfl hne
    | cons v l => rw [chainR_last0, hlast]; rfl

/-- the last vertex of the rising chain -/
theorem Sr.top {p : List Pt} (h : Sr p) : ∃ m, 0 < m ∧ m < p.length ∧ (∀ i, i < m → 0 < hh (E p i)) ∧ ∀ i, m ≤ i → i < p.length → hh (E p i) < 0 := by
  have hl := h.len
  have h0 : 0 < hh (E p 0) := by
    have := h.low 1 (by omega) (by omega)
    have e := hh_step p 0
    rw [vt_lt (by omega), vt_lt (by omega)] at e
    simp only [Nat.zero_add] at e
    omega
  have hn : hh (E p (p.length - 1)) < 0 := by
    have := h.low (p.length - 1) (by omega) (by omega)
    have e := hh_step p (p.length - 1)
    rw [show p.length - 1 + 1 = p.length by omega, vt_n, vt_lt (by omega), vt_lt (by omega)] at e
    omega
  have key : ∀ k, k ≤ p.length → (∀ i, i < k → 0 < hh (E p i)) ∨ ∃ m, m < k ∧ (∀ i, i < m → 0 < hh (E p i)) ∧ hh (E p m) < 0 := by
    intro k
    induction k with
    | zero => exact fun _ => .inl fun i hi => by omega
    | succ k ih =>
      intro hk
      rcases ih (by omega) with h1 | ⟨m, h1, h2, h3⟩
      · rcases Int.lt_or_gt_of_ne (h.ne k (by omega)) with h2 | h2
        · exact .inr ⟨k, by omega, h1, h2⟩
        · refine .inl fun i hi => ?_
          rcases Nat.lt_or_eq_of_le (Nat.le_of_lt_succ hi) with h3 | rfl
          · exact h1 i h3
          · exact h2
      · exact .inr ⟨m, by omega, h2, h3⟩
  rcases key p.length (Nat.le_refl _) with h1 | ⟨m, h1, h2, h3⟩
  · have := h1 (p.length - 1) (by omega); omega
  · refine ⟨m, ?_, h1, h2, fun i h4 h5 => h.stays h4 h5 h3⟩
    rcases Nat.eq_zero_or_pos m with rfl | h4
    · omega
    · exact h4

theorem dd_id : ∀ {l : List Pt}, l.Pairwise (fun a b => a ≠ b) → dd l = l
  | [], _ => rfl
  | [x], _ => rfl
  | x :: y :: l, h => by
    rw [dd, if_neg ((List.pairwise_cons.1 h).1 y (by simp)), dd_id (List.pairwise_cons.1 h).2]

theorem lt2_hh {a b : Pt} (h1 : -1000000 < a.1 - b.1) (h2 : a.1 - b.1 < 1000000) : lt2 a b ↔ hh a < hh b := by
  unfold lt2 hh; omega

theorem Sr.nodup {p : List Pt} (h : Sr p) : p.Nodup := by
  have hl := h.len
  obtain ⟨m, m0, mn, hu, hd⟩ := h.top
  have hcv := h.cv
  unfold List.Nodup
  rw [List.pairwise_iff_getElem]
  intro i j hi hj hij e
  rw [← nth_get, ← nth_get] at e
  -- the edge that leaves j: i does not lie on it, but j does
  by_cases h1 : i = (j + 1) % p.length
  · have h2 := hcv.turn hj
    have e2 : E p j = (0, 0) := by
      unfold E; rw [vt_nx, vt_lt hj]; unfold nx; rw [← h1, e]; unfold sb; simp
    rw [e2] at h2; unfold cr at h2; simp at h2
  · have h2 := hcv.left j i hj (by omega) (by omega) h1
    rw [side_E hj, e, vt_lt hj] at h2
    omega

/-- a polygon is its own hull -/
theorem Sr.hull {p : List Pt} (h : Sr p) (hb : Near p) : hullF p = p := by
  have hl := h.len
  obtain ⟨m, m0, mn, hu, hd⟩ := h.top
  have hcv := h.cv
  have hmemL : ∀ x, x ∈ V.srt p ↔ x ∈ p := fun x => (srt_perm p).mem_iff
  have hnd : (V.srt p).Nodup := (srt_perm p).nodup_iff.2 h.nodup
  have hne : (V.srt p).Pairwise (fun a b => a ≠ b) := hnd
  have hinc : (V.srt p).Pairwise (fun a b => hh a < hh b) := by
    have h1 := List.Pairwise.and (srt_sorted p) hne
    refine h1.imp_of_mem fun {a b} ha hb' h2 => ?_
    have hn := hb a ((hmemL a).1 ha) b ((hmemL b).1 hb')
    rw [lt2_hh (by omega) (by omega)] at h2
    have := (lt2_hh hn.1 hn.2).1
    rcases Int.lt_trichotomy (hh a) (hh b) with h3 | h3 | h3
    · exact h3
    · exact absurd (by rw [hh_sb]; omega) (ne_of_hh h2.2 hn.1 hn.2)
    · omega
  have hlen : (V.srt p).length = p.length := (srt_perm p).length_eq
  have hnil : V.srt p ≠ [] := fun e => by rw [e] at hlen; simp at hlen; omega
  have vp : ∀ k, vt p k ∈ p := vt_mem (by omega)
  have hside : ∀ k, k < p.length → ∀ x ∈ p, 0 ≤ trn (vt p k) (vt p (k + 1)) x := fun k hk x hx => by
    obtain ⟨j, hj, rfl⟩ := mem_vt hx
    have e : trn (vt p k) (vt p (k + 1)) (vt p j) = side p (vt p j) k := by unfold side; rw [vt_nx, vt_lt hk]
    rw [e]
    by_cases h3 : j = k
    · subst h3; rw [side_E hj]; omega
    by_cases h4 : j = (k + 1) % p.length
    · have e2 : vt p j = vt p (k + 1) := by unfold vt; rw [h4, Nat.mod_mod]
      rw [side_E hk, e2]
      have : cr (E p k) (E p k) = 0 := cr_self _
      have e3 : cr (E p k) (E p k) = cr (E p k) (vt p (k + 1)) - cr (E p k) (vt p k) := by
        conv => lhs; arg 2; unfold E
        rw [cr_sb]
      omega
    · rw [vt_lt hj]; exact Int.le_of_lt (hcv.left k j hk hj h3 h4)
  have hturn : ∀ k, k + 1 < p.length → 0 < trn (vt p k) (vt p (k + 1)) (vt p (k + 2)) := fun k hk => by
    have t := hcv.turn (k := k) (by omega)
    rw [Nat.mod_eq_of_lt hk] at t
    rw [trn_cr]
    have e : sb (vt p (k + 2)) (vt p k) = ad (E p k) (E p (k + 1)) := by
      unfold E sb ad
      rw [show k + 2 = k + 1 + 1 from rfl]
      exact Prod.ext (by simp only; omega) (by simp only; omega)
    rw [e, cr_ad]
    have : cr (sb (vt p (k + 1)) (vt p k)) (E p k) = 0 := cr_self _
    have e5 : sb (vt p (k + 1)) (vt p k) = E p k := rfl
    rw [e5] at this ⊢
    omega
  -- the highest vertex
  have hhigh : ∀ x ∈ p, x = vt p m ∨ hh x < hh (vt p m) := fun x hx => by
    obtain ⟨j, hj, rfl⟩ := mem_vt hx
    rcases Nat.lt_trichotomy j m with h1 | h1 | h1
    · exact .inr (risesS (G := fun i => hh (vt p i)) m h1 (fun i h3 h4 => by have := hh_step p i; have := hu i h4; omega))
    · exact .inl (by rw [h1])
    · exact .inr (fallsS (G := fun i => hh (vt p i)) (a := m) j h1 (fun i h3 h4 => by have := hh_step p i; have := hd i h3 (by omega); omega))
  have hlow : ∀ x ∈ p, x = vt p 0 ∨ hh (vt p 0) < hh x := fun x hx => by
    obtain ⟨j, hj, rfl⟩ := mem_vt hx
    rcases Nat.eq_zero_or_pos j with h1 | h1
    · exact .inl (by rw [h1])
    · have := h.low j h1 hj
      rw [← vt_lt hj, ← vt_lt (by omega : 0 < p.length)] at this
      exact .inr this
  have hLhead : (V.srt p).head? = some (vt p 0) := by
    obtain ⟨x, l, e⟩ := List.exists_cons_of_ne_nil hnil
    have e1 : (V.srt p).head? = some x := by rw [e]; rfl
    rw [e1, incr_head hinc e1 ((hmemL _).2 (vp 0)) (fun z hz => hlow z ((hmemL z).1 hz))]
  have hincN : ((V.srt p).reverse.map vNeg).Pairwise (fun a b => hh a < hh b) := by
    rw [List.pairwise_map, List.pairwise_reverse]
    exact hinc.imp fun h1 => by rw [hh_vNeg, hh_vNeg]; omega
  have hLlast : (V.srt p).getLast? = some (vt p m) := by
    have e0 : ((V.srt p).reverse.map vNeg).head? = (V.srt p).getLast?.map vNeg := by rw [List.head?_map, List.head?_reverse]
    obtain ⟨x, hx⟩ : ∃ x, (V.srt p).getLast? = some x := ⟨_, List.getLast?_eq_some_getLast hnil⟩
    rw [hx] at e0
    have := incr_head hincN e0 (y := vNeg (vt p m)) (List.mem_map.2 ⟨_, by simpa using (hmemL _).2 (vp m), rfl⟩) (fun z hz => by
      obtain ⟨u, hu', rfl⟩ := List.mem_map.1 hz
      rcases hhigh u ((hmemL u).1 (by simpa using hu')) with h1 | h1
      · exact .inl (by rw [h1])
      · exact .inr (by rw [hh_vNeg, hh_vNeg]; omega))
    have := congrArg vNeg this
    rw [vNeg_vNeg, vNeg_vNeg] at this
    rw [hx, this]
  -- the two chains
  have C1 : chainR [] (V.srt p) = rseg p 0 m := by
    refine chain_eq hinc hnil ((rseg_dec p 0 m).2 fun i hi => ?_) ((rseg_lt p 0 m).2 fun i hi => ?_) (fun x hx => ?_) ?_ ?_ (fun x hx => (rseg_lf p 0 x m).2 fun i hi => ?_)
    · have := hh_step p i; have := hu i hi; rw [Nat.zero_add]; omega
    · rw [Nat.zero_add]; exact hturn i (by omega)
    · obtain ⟨i, hi, rfl⟩ := (rseg_mem p 0 m).1 hx
      exact (hmemL _).2 (vp _)
    · rw [rseg_head, hLlast, Nat.zero_add]
    · rw [rseg_last, hLhead]
    · rw [Nat.zero_add]; exact hside i (by omega) x ((hmemL x).1 hx)
  have hnp : vt p (m + (p.length - m)) = vt p 0 := by rw [show m + (p.length - m) = p.length by omega, vt_n]
  have C2 : chainR [] (V.srt p).reverse = rseg p m (p.length - m) := by
    have : chainR [] ((V.srt p).reverse.map vNeg) = (rseg p m (p.length - m)).map vNeg := by
      refine chain_eq hincN (by simpa using hnil) ?_ (LT_neg.2 ((rseg_lt p m _).2 fun i hi => ?_)) (fun x hx => ?_) ?_ ?_ (fun x hx => ?_)
      · unfold Dec
        rw [List.pairwise_map]
        have key : ∀ k, k ≤ p.length - m → (rseg p m k).Pairwise (fun a b => hh (vNeg b) < hh (vNeg a)) := by
          intro k
          induction k with
          | zero => exact fun _ => List.pairwise_singleton _ _
          | succ k ih =>
            intro hk
            rw [rseg, List.pairwise_cons]
            refine ⟨fun y hy => ?_, ih (by omega)⟩
            obtain ⟨i, hi, rfl⟩ := (rseg_mem p m k).1 hy
            rw [hh_vNeg, hh_vNeg]
            have := fallsS (G := fun i => hh (vt p (m + i))) (a := i) (k + 1) (by omega) (fun i h3 h4 => by
              have := hh_step p (m + i); have := hd (m + i) (by omega) (by omega); rw [← Nat.add_assoc]; omega)
            have this2 : hh (vt p (m + (k + 1))) < hh (vt p (m + i)) := this
            rw [← Nat.add_assoc] at this2
            omega
        exact key _ (Nat.le_refl _)
      · exact hturn (m + i) (by omega)
      · obtain ⟨y, hy, rfl⟩ := List.mem_map.1 hx
        obtain ⟨i, hi, rfl⟩ := (rseg_mem p m _).1 hy
        exact List.mem_map.2 ⟨_, by simpa using (hmemL _).2 (vp _), rfl⟩
      · rw [List.head?_map, rseg_head, hnp, List.getLast?_map, List.getLast?_reverse, hLhead]
      · rw [List.getLast?_map, rseg_last, List.head?_map, List.head?_reverse, hLlast]
      · obtain ⟨y, hy, rfl⟩ := List.mem_map.1 hx
        refine Lf_neg.2 ((rseg_lf p m y _).2 fun i hi => hside (m + i) (by omega) y ((hmemL y).1 (by simpa using hy)))
    have e := chainR_neg (V.srt p).reverse []
    rw [List.map_nil, this] at e
    have := congrArg (List.map vNeg) e
    simp only [List.map_map] at this
    have idm : ∀ l : List Pt, l.map (vNeg ∘ vNeg) = l := fun l => by
      conv => rhs; rw [← List.map_id l]
      exact List.map_congr_left fun x _ => vNeg_vNeg x
    rw [idm, idm] at this
    exact this.symm
  unfold hullF hullP
  rw [dd_id hne, if_neg (by omega), C1, C2]
  exact rseg_join p m0 mn

end Go.Proofs.Ytjmklbkcpjmcaaa.V

namespace Go.Proofs.Ytjmklbkcpjmcaaa.V
open Go Go.RowKit Go.Proofs.Ytjmklbkcpjmcaaa.H
set_option linter.unusedVariables false
set_option linter.unusedSimpArgs false

theorem dd_strict : ∀ {l : List Pt}, SortedL l → (dd l).Pairwise lt2
  | [], _ => .nil
  | [x], _ => List.pairwise_singleton _ _
  | x :: y :: l, h => by
    have h1 := List.pairwise_cons.1 h
    have ih := dd_strict (l := y :: l) h1.2
    unfold dd
    split
    · exact ih
    · next hxy =>
      refine List.pairwise_cons.2 ⟨fun z hz => ?_, ih⟩
      have hz' := (dd_sub (y :: l)).subset hz
      have k1 := h1.1 z hz'
      have k2 := h1.1 y (by simp)
      have k3 : z = y ∨ ¬ lt2 z y := by
        rcases List.mem_cons.1 hz' with rfl | h5
        · exact .inl rfl
        · exact .inr ((List.pairwise_cons.1 h1.2).1 z h5)
      unfold lt2 at *
      rcases k3 with rfl | k3
      · have : ¬ (x.1 = z.1 ∧ x.2 = z.2) := fun ⟨e1, e2⟩ => hxy (Prod.ext e1 e2)
        omega
      · have : ¬ (x.1 = y.1 ∧ x.2 = y.2) := fun ⟨e1, e2⟩ => hxy (Prod.ext e1 e2)
        omega

theorem rseg_inc {p : List Pt} {a : Nat} : ∀ {k : Nat}, (rseg p a k).Pairwise (fun a b => hh a < hh b) → ∀ i, i < k → hh (vt p (a + i + 1)) < hh (vt p (a + i))
  | 0, _, i, hi => absurd hi (Nat.not_lt_zero _)
  | k + 1, h, i, hi => by
    rw [rseg, List.pairwise_cons] at h
    rcases Nat.lt_or_eq_of_le (Nat.le_of_lt_succ hi) with h1 | h1
    · exact rseg_inc h.2 i h1
    · subst h1; exact h.1 _ ((rseg_mem p a i).2 ⟨i, Nat.le_refl _, rfl⟩)

theorem two_ends {R : List Pt} {x y : Pt} (h : R.head? = some x) (k : R.getLast? = some y) (hxy : x ≠ y) : 2 ≤ R.length := by
  match R, h, k with
  | [a], h, k =>
    simp only [List.head?_cons, List.getLast?_singleton, Option.some.injEq] at h k
    exact absurd (h.symm.trans k) hxy
  | a :: b :: r, _, _ => simp

theorem turn_of_trn {p : List Pt} {i : Nat} (h : 0 < trn (vt p i) (vt p (i + 1)) (vt p (i + 2))) : 0 < cr (E p i) (E p (i + 1)) := by
  rw [trn_cr] at h
  have e : sb (vt p (i + 2)) (vt p i) = ad (E p i) (E p (i + 1)) := by
    unfold E sb ad
    rw [show i + 2 = i + 1 + 1 from rfl]
    exact Prod.ext (by simp only; omega) (by simp only; omega)
  rw [e, cr_ad] at h
  have : cr (sb (vt p (i + 1)) (vt p i)) (E p i) = 0 := cr_self _
  have e5 : sb (vt p (i + 1)) (vt p i) = E p i := rfl
  rw [e5] at this h
  omega

theorem sr_of_hull {p : List Pt} (h3 : 3 ≤ p.length) (hb : Near p) (h : hullF p = p) : Sr p := by
  have hsub : ∀ x ∈ dd (V.srt p), x ∈ p := fun x hx => (srt_perm p).mem_iff.1 ((dd_sub _).subset hx)
  have hL3 : ¬ (dd (V.srt p)).length < 3 := fun hlt => by
    have e : hullF p = dd (V.srt p) := by unfold hullF hullP; rw [if_pos hlt]
    rw [e] at h; rw [h] at hlt; omega
  have hinc : (dd (V.srt p)).Pairwise (fun a b => hh a < hh b) := (dd_strict (srt_sorted p)).imp_of_mem fun {a b} ha hb' h2 => by
    have hn := hb a (hsub a ha) b (hsub b hb')
    exact (lt2_hh hn.1 hn.2).1 h2
  have hp : (chainR [] (dd (V.srt p))).tail.reverse ++ (chainR [] (dd (V.srt p)).reverse).tail.reverse = p := by
    conv => rhs; rw [← h]
    unfold hullF hullP; rw [if_neg hL3]
  generalize dd (V.srt p) = L at hL3 hinc hp
  have hrev : Dec L.reverse := by unfold Dec; rw [List.pairwise_reverse]; exact hinc
  have hnil : L ≠ [] := fun e => by rw [e] at hL3; simp at hL3
  obtain ⟨a, ha⟩ : ∃ a, L.head? = some a := by
    cases L with
    | nil => exact absurd rfl hnil
    | cons v l => exact ⟨v, rfl⟩
  obtain ⟨z, hz⟩ : ∃ z, L.getLast? = some z := ⟨_, List.getLast?_eq_some_getLast hnil⟩
  have haz : a ≠ z := by
    match L, hL3, hinc, ha, hz with
    | [], h1, _, _, _ => simp at h1
    | [b], h1, _, _, _ => simp at h1
    | b :: c :: l, _, h1, h2, h5 =>
      simp only [List.head?_cons, Option.some.injEq] at h2
      subst h2
      have : z ∈ c :: l := List.mem_of_getLast? (by simpa [List.getLast?_cons] using h5)
      have := (List.pairwise_cons.1 h1).1 z this
      rintro rfl
      omega
  have R1 : Dec (chainR [] L) := hrev.sub (by simpa using chainR_sub L [])
  have R2 : (chainR [] L.reverse).Pairwise (fun a b => hh a < hh b) := hinc.sublist (by simpa using chainR_sub L.reverse [])
  have T1 := chainR_LT L [] trivial
  have T2 := chainR_LT L.reverse [] trivial
  have ends : ∀ (l : List Pt), l ≠ [] → (chainR [] l).head? = l.getLast? ∧ (chainR [] l).getLast? = l.head? := fun l hl => by
    constructor
    · obtain ⟨l', v, e⟩ : ∃ l' v, l = l' ++ [v] := ⟨l.dropLast, l.getLast hl, (List.dropLast_concat_getLast hl).symm⟩
      rw [e, chainR_head]; simp
    · cases l with
      | nil => exact absurd rfl hl
      | cons v l => rw [chainR_last0]; rfl
  obtain ⟨e1, e2⟩ := ends L hnil
  obtain ⟨e3, e4⟩ := ends L.reverse (by simpa using hnil)
  rw [List.getLast?_reverse] at e3
  rw [List.head?_reverse] at e4
  rw [hz] at e1 e4
  rw [ha] at e2 e3
  generalize chainR [] L = R at *
  generalize chainR [] L.reverse = Q at *
  have lR := two_ends e1 e2 (Ne.symm haz)
  have lQ := two_ends e3 e4 haz
  obtain ⟨R', rfl⟩ : ∃ R', R = z :: R' := by
    cases R with
    | nil => simp at lR
    | cons b r => simp only [List.head?_cons, Option.some.injEq] at e1; exact ⟨r, by rw [e1]⟩
  obtain ⟨Q', rfl⟩ : ∃ Q', Q = a :: Q' := by
    cases Q with
    | nil => simp at lQ
    | cons b r => simp only [List.head?_cons, Option.some.injEq] at e3; exact ⟨r, by rw [e3]⟩
  rw [List.tail_cons, List.tail_cons] at hp
  simp only [List.length_cons] at lR lQ
  have hn : p.length = R'.length + Q'.length := by rw [← hp]; simp
  have g1 : ∀ i, i < R'.length → vt p i = R'.reverse[i]?.getD (0, 0) := fun i hi => by
    rw [vt_lt (by omega), nth, List.getD_eq_getElem?_getD, ← hp, List.getElem?_append_left (by simpa using hi)]
  have g2 : ∀ i, i < Q'.length → vt p (R'.length + i) = Q'.reverse[i]?.getD (0, 0) := fun i hi => by
    rw [vt_lt (by omega), nth, List.getD_eq_getElem?_getD, ← hp, List.getElem?_append_right (by simp)]
    congr 2
    simp
  have q0 : vt p R'.length = z := by
    have := g2 0 (by omega)
    rw [Nat.add_zero] at this
    rw [this, ← List.head?_eq_getElem?, List.head?_reverse]
    have : Q'.getLast? = some z := by
      cases Q' with
      | nil => simp at lQ
      | cons b r => simpa [List.getLast?_cons] using e4
    rw [this]; rfl
  have r0 : vt p p.length = a := by
    rw [vt_n, g1 0 (by omega), ← List.head?_eq_getElem?, List.head?_reverse]
    have : R'.getLast? = some a := by
      cases R' with
      | nil => simp at lR
      | cons b r => simpa [List.getLast?_cons] using e2
    rw [this]; rfl
  have hR : z :: R' = rseg p 0 R'.length := rseg_eq (by simp) fun i hi => by
    rw [Nat.zero_add, List.reverse_cons]
    rcases Nat.lt_or_eq_of_le hi with h1 | h1
    · rw [List.getElem?_append_left (by simpa using h1), g1 i h1, List.getElem?_eq_getElem (by simpa using h1)]; rfl
    · subst h1
      rw [List.getElem?_append_right (by simp), q0]; simp
  have hQ : a :: Q' = rseg p R'.length Q'.length := rseg_eq (by simp) fun i hi => by
    rw [List.reverse_cons]
    rcases Nat.lt_or_eq_of_le hi with h1 | h1
    · rw [List.getElem?_append_left (by simpa using h1), g2 i h1, List.getElem?_eq_getElem (by simpa using h1)]; rfl
    · subst h1
      rw [List.getElem?_append_right (by simp), ← hn, r0]; simp
  rw [hR] at R1 T1
  rw [hQ] at R2 T2
  have up : ∀ i, i < R'.length → 0 < hh (E p i) := fun i hi => by
    have := (rseg_dec p 0 _).1 R1 i hi
    have e := hh_step p i
    rw [Nat.zero_add] at this
    omega
  have dn : ∀ i, R'.length ≤ i → i < p.length → hh (E p i) < 0 := fun i h1 h2 => by
    have := rseg_inc R2 (i - R'.length) (by omega)
    rw [show R'.length + (i - R'.length) = i by omega] at this
    have e := hh_step p i
    omega
  have con : ∀ i, i + 1 < p.length → An (E p i) (E p (i + 1)) := fun i hi => by
    rcases Nat.lt_trichotomy (i + 1) R'.length with h1 | h1 | h1
    · have := (rseg_lt p 0 _).1 T1 i (by omega)
      rw [Nat.zero_add] at this
      exact .inr ⟨.inl ⟨up i (by omega), up (i + 1) h1⟩, turn_of_trn this⟩
    · exact .inl ⟨up i (by omega), dn (i + 1) (by omega) hi⟩
    · have := (rseg_lt p R'.length _).1 T2 (i - R'.length) (by omega)
      rw [show R'.length + (i - R'.length) = i by omega] at this
      exact .inr ⟨.inr ⟨dn i (by omega) (by omega), dn (i + 1) (by omega) hi⟩, turn_of_trn this⟩
  refine ⟨h3, fun k hk => ?_, ?_⟩
  · rcases Nat.lt_or_ge k R'.length with h1 | h1
    · have := up k h1; omega
    · have := dn k h1 hk; omega
  · intro i j hij
    induction j with
    | zero => omega
    | succ j ih =>
      intro hj
      rcases Nat.lt_or_eq_of_le (Nat.le_of_lt_succ hij) with h1 | h1
      · exact (ih h1 (by omega)).trans (con j hj)
      · subst h1; exact con i hj

theorem near_of_bd {p : List Pt} (h : ∀ q ∈ p, Bd2 100000 q.1 q.2) : Near p := fun a ha b hb => by
  obtain ⟨⟨_, _⟩, _⟩ := h a ha
  obtain ⟨⟨_, _⟩, _⟩ := h b hb
  omega

theorem valid_sr {p : List Pt} (h : validF p = true) : Sr p := by
  obtain ⟨h1, h2, h3, h4⟩ := validF_spec h
  exact sr_of_hull h1 (near_of_bd fun q hq => (h3 q hq).mono (by omega)) h4

theorem valid_of_sr {p : List Pt} (h : Sr p) (h2 : p.length ≤ 32) (h3 : p.any (fun q => !okB q.1 q.2) = false) : validF p = true := by
  unfold validF
  have hl := h.len
  have hb : Near p := near_of_bd fun q hq => (okB_bd (q := q) (by
    have := List.any_eq_false.1 h3 q hq
    simpa using this)).mono (by omega)
  rw [h3, decide_eq_false (by omega), decide_eq_false (by omega), decide_eq_true (h.hull hb)]
  rfl

end Go.Proofs.Ytjmklbkcpjmcaaa.V

namespace Go.Proofs.Ytjmklbkcpjmcaaa.V
open Go Go.RowKit Go.Proofs.Ytjmklbkcpjmcaaa.H
set_option linter.unusedVariables false
set_option linter.unusedSimpArgs false

/-- in the region, border and all -/
def InC (p : List Pt) (x : Pt) : Prop := ∀ k, k < p.length → 0 ≤ side p x k
/-- in its interior -/
def InI (p : List Pt) (x : Pt) : Prop := ∀ k, k < p.length → 0 < side p x k
instance (p : List Pt) (x : Pt) : Decidable (InC p x) := by unfold InC; exact inferInstance
instance (p : List Pt) (x : Pt) : Decidable (InI p x) := by unfold InI; exact inferInstance
theorem InI.c {p : List Pt} {x : Pt} (h : InI p x) : InC p x := fun k hk => Int.le_of_lt (h k hk)

theorem place_lt (p : List Pt) (x : Pt) : placeF p x < 0 ↔ ¬ InC p x := by
  unfold placeF InC
  split
  · next h =>
    obtain ⟨k, h1, h2⟩ := h
    exact ⟨fun _ h3 => by have := h3 k h1; omega, fun _ => by omega⟩
  · next h =>
    refine ⟨fun h3 => ?_, fun h3 => absurd (fun k hk => ?_) h3⟩
    · split at h3 <;> omega
    · exact Int.le_of_not_gt fun h4 => h ⟨k, hk, h4⟩
theorem place_one (p : List Pt) (x : Pt) : placeF p x = 1 ↔ InI p x := by
  unfold placeF InI
  split
  · next h =>
    obtain ⟨k, h1, h2⟩ := h
    exact ⟨fun h3 => by omega, fun h3 => by have := h3 k h1; omega⟩
  · next h =>
    split
    · next h2 =>
      obtain ⟨k, h1, h2⟩ := h2
      exact ⟨fun h3 => by omega, fun h3 => by have := h3 k h1; omega⟩
    · next h2 =>
      refine ⟨fun _ k hk => ?_, fun _ => rfl⟩
      rcases Int.lt_trichotomy (side p x k) 0 with h3 | h3 | h3
      · exact absurd ⟨k, hk, h3⟩ h
      · exact absurd ⟨k, hk, h3⟩ h2
      · exact h3

/-- where a direction stands among the edges -/
theorem Sr.pos {p : List Pt} (h : Sr p) {e : Pt} (he : hh e ≠ 0) : ∃ k, k ≤ p.length ∧ (∀ i, i < k → An (E p i) e) ∧ ∀ i, k ≤ i → i < p.length → Ae e (E p i) := by
  have key : ∀ k, k ≤ p.length → (∀ i, i < k → An (E p i) e) ∨ ∃ m, m < k ∧ (∀ i, i < m → An (E p i) e) ∧ Ae e (E p m) := by
    intro k
    induction k with
    | zero => exact fun _ => .inl fun i hi => by omega
    | succ k ih =>
      intro hk
      rcases ih (by omega) with h1 | ⟨m, h1, h2, h3⟩
      · rcases An.total (h.ne k (by omega)) he with h2 | h2
        · refine .inl fun i hi => ?_
          rcases Nat.lt_or_eq_of_le (Nat.le_of_lt_succ hi) with h3 | rfl
          · exact h1 i h3
          · exact h2
        · exact .inr ⟨k, by omega, h1, h2⟩
      · exact .inr ⟨m, by omega, h2, h3⟩
  rcases key p.length (Nat.le_refl _) with h1 | ⟨m, h1, h2, h3⟩
  · exact ⟨p.length, Nat.le_refl _, h1, fun i h2 h3 => by omega⟩
  · refine ⟨m, by omega, h2, fun i h4 h5 => ?_⟩
    rcases Nat.lt_or_eq_of_le h4 with h6 | rfl
    · exact h3.trans (h.srt m i h6 h5).ae
    · exact h3

theorem cr_E_vt (p : List Pt) (k : Nat) : cr (E p k) (vt p (k + 1)) = cr (E p k) (vt p k) := by
  have : cr (E p k) (E p k) = 0 := cr_self _
  have e3 : cr (E p k) (E p k) = cr (E p k) (vt p (k + 1)) - cr (E p k) (vt p k) := by
    conv => lhs; arg 2; unfold E
    rw [cr_sb]
  omega

/-- two vectors that turn left, and one between them -/
theorem between {a b e z : Pt} (hab : 0 < cr a b) (h1 : 0 < cr a e) (h2 : 0 ≤ cr e b) : (0 ≤ cr a z → 0 ≤ cr b z → 0 ≤ cr e z) ∧ (0 ≤ cr a z → 0 < cr b z → 0 < cr e z) := by
  have id : cr e z * cr a b = cr e b * cr a z + cr a e * cr b z := by unfold cr; grind
  constructor
  · intro ha hb
    have e1 := npp h2 ha
    have e2 := npp (Int.le_of_lt h1) hb
    exact fnon (b := cr a b) (by omega) hab
  · intro ha hb
    have e1 := npp h2 ha
    have e2 := mpp h1 hb
    exact fpos (b := cr a b) (by omega) hab

theorem btw_ud {a b e : Pt} (ha : 0 < hh a) (hb : hh b < 0) (hab : 0 < cr a b) : (0 < hh e → 0 < cr a e → 0 < cr e b) ∧ (hh e < 0 → 0 ≤ cr e b → 0 < cr a e) := by
  have pk := pluck a e b
  rw [cr_neg a b] at pk
  constructor
  · intro he h
    have e1 := mpn h hb
    have e2 := mnp (show -cr a b < 0 by omega) he
    exact fpos (b := hh a) (by omega) ha
  · intro he h
    have e1 := npp h (Int.le_of_lt ha)
    have e2 := mnn (show -cr a b < 0 by omega) he
    exact gpos (b := hh b) (by omega) hb
theorem btw_du {a b e : Pt} (ha : hh a < 0) (hb : 0 < hh b) (hab : 0 < cr a b) : (0 < hh e → 0 ≤ cr e b → 0 < cr a e) ∧ (hh e < 0 → 0 < cr a e → 0 < cr e b) := by
  have pk := pluck a e b
  rw [cr_neg a b] at pk
  constructor
  · intro he h
    have e1 := npn h (Int.le_of_lt ha)
    have e2 := mnp (show -cr a b < 0 by omega) he
    exact fpos (b := hh b) (by omega) hb
  · intro he h
    have e1 := mpp h hb
    have e2 := mnn (show -cr a b < 0 by omega) he
    exact gpos (b := hh a) (by omega) ha

/-- the points of a polygon do not lie to the right of a line by its vertex of that direction -/
theorem Sr.cone {p : List Pt} (h : Sr p) {e : Pt} (he : hh e ≠ 0) {k : Nat} (hk : k ≤ p.length) (h1 : ∀ i, i < k → An (E p i) e) (h2 : ∀ i, k ≤ i → i < p.length → Ae e (E p i)) (x : Pt) :
    (InC p x → cr e (vt p k) ≤ cr e x) ∧ (InI p x → cr e (vt p k) < cr e x) := by
  have hl := h.len
  have hcv := h.cv
  obtain ⟨m, m0, mn, hu, hd⟩ := h.top
  -- the edges at the vertex
  obtain ⟨i, j, hi, hj, hi2, hj2, hab, ha1, ha2⟩ : ∃ i j, i < p.length ∧ j < p.length ∧ vt p (i + 1) = vt p k ∧ vt p j = vt p k ∧ 0 < cr (E p i) (E p j) ∧ 0 < cr (E p i) e ∧ 0 ≤ cr e (E p j) := by
    rcases Nat.eq_zero_or_pos k with rfl | hk0
    · have ht := hcv.turn (k := p.length - 1) (by omega)
      rw [show p.length - 1 + 1 = p.length by omega, Nat.mod_self] at ht
      have a1 := h2 0 (Nat.le_refl _) (by omega)
      have a2 := hu 0 m0
      have a3 := hd (p.length - 1) (by omega) (by omega)
      unfold Ae at a1
      have b := (btw_du (e := e) a3 a2 ht).1 (by omega) (by omega)
      exact ⟨p.length - 1, 0, by omega, by omega, by rw [show p.length - 1 + 1 = p.length by omega, vt_n], rfl, ht, b, by omega⟩
    · rcases Nat.lt_or_eq_of_le hk with hkn | rfl
      · have ht := hcv.turn (k := k - 1) (by omega)
        rw [show k - 1 + 1 = k by omega, Nat.mod_eq_of_lt hkn] at ht
        have a1 := h1 (k - 1) (by omega)
        have a2 := h2 k (Nat.le_refl _) hkn
        have a3 := h.srt (k - 1) k (by omega) hkn
        refine ⟨k - 1, k, by omega, hkn, by rw [show k - 1 + 1 = k by omega], rfl, ht, ?_, ?_⟩
        · unfold An at a1 a3
          unfold Ae at a2
          rcases a1 with ⟨c1, c2⟩ | ⟨_, c⟩
          · exact (btw_ud (e := e) c1 (by omega) ht).2 c2 (by omega)
          · exact c
        · unfold An at a1 a3
          unfold Ae at a2
          rcases a2 with ⟨c1, c2⟩ | ⟨_, c⟩
          · exact Int.le_of_lt ((btw_ud (e := e) (a := E p (k - 1)) (by omega) c2 ht).1 c1 (by omega))
          · exact c
      · have ht := hcv.turn (k := p.length - 1) (by omega)
        rw [show p.length - 1 + 1 = p.length by omega, Nat.mod_self] at ht
        have a1 := h1 (p.length - 1) (by omega)
        have a2 := hu 0 m0
        have a3 := hd (p.length - 1) (by omega) (by omega)
        unfold An at a1
        have b := (btw_du (e := e) a3 a2 ht).2 (by omega) (by omega)
        exact ⟨p.length - 1, 0, by omega, by omega, by rw [show p.length - 1 + 1 = p.length by omega], (vt_n p).symm, ht, by omega, Int.le_of_lt b⟩
  have sa : cr (E p i) (sb x (vt p k)) = side p x i := by
    rw [side_E hi, cr_sb, ← hi2, cr_E_vt]
  have sb' : cr (E p j) (sb x (vt p k)) = side p x j := by
    rw [side_E hj, cr_sb, ← hj2]
  obtain ⟨b1, b2⟩ := between (z := sb x (vt p k)) hab ha1 ha2
  rw [sa, sb', cr_sb] at b1 b2
  exact ⟨fun hx => by have := b1 (hx i hi) (hx j hj); omega, fun hx => by have := b2 (Int.le_of_lt (hx i hi)) (hx j hj); omega⟩

/-- the corner of a polygon for a direction -/
theorem Sr.corner {p : List Pt} (h : Sr p) {e : Pt} (he : hh e ≠ 0) : ∃ v ∈ p, (∀ y ∈ p, cr e v ≤ cr e y) ∧ (∀ x, InC p x → cr e v ≤ cr e x) ∧ ∀ x, InI p x → cr e v < cr e x := by
  have hl := h.len
  obtain ⟨k, hk, h1, h2⟩ := h.pos he
  refine ⟨vt p k, vt_mem (by omega) k, fun y hy => ?_, fun x hx => (h.cone he hk h1 h2 x).1 hx, fun x hx => (h.cone he hk h1 h2 x).2 hx⟩
  obtain ⟨j, hj, rfl⟩ := mem_vt hy
  exact h.supp he hk (fun i hi => (h1 i hi).ae) h2 j (by omega)

theorem Sr.in_self {p : List Pt} (h : Sr p) {y : Pt} (hy : y ∈ p) : InC p y := fun k hk => by
  obtain ⟨j, hj, rfl⟩ := mem_vt hy
  rw [side_E hk]
  have := h.supp (h.ne k hk) (Nat.le_of_lt hk) (fun i hi => (h.srt i k hi hk).ae) (fun i h1 h2 => by
    rcases Nat.lt_or_eq_of_le h1 with h3 | rfl
    · exact (h.srt k i h3 h2).ae
    · exact Ae.refl (h.ne k hk)) j (by omega)
  omega

/-- a polygon whose vertices lie in another one lies in it -/
theorem sub_in {p q : List Pt} (hp : Sr p) (hq : Sr q) (h : ∀ y ∈ p, InC q y) (x : Pt) : (InC p x → InC q x) ∧ (InI p x → InI q x) := by
  have key : ∀ k, k < q.length → ∃ v ∈ p, (∀ x, InC p x → cr (E q k) v ≤ cr (E q k) x) ∧ ∀ x, InI p x → cr (E q k) v < cr (E q k) x := fun k hk => by
    obtain ⟨v, h1, _, h2, h3⟩ := hp.corner (hq.ne k hk)
    exact ⟨v, h1, h2, h3⟩
  constructor
  · intro hx k hk
    obtain ⟨v, h1, h2, h3⟩ := key k hk
    have a := h v h1 k hk
    have b := h2 x hx
    rw [side_E hk] at a ⊢
    omega
  · intro hx k hk
    obtain ⟨v, h1, h2, h3⟩ := key k hk
    have a := h v h1 k hk
    have b := h3 x hx
    rw [side_E hk] at a ⊢
    omega

end Go.Proofs.Ytjmklbkcpjmcaaa.V

namespace Go.Proofs.Ytjmklbkcpjmcaaa.V
open Go Go.RowKit Go.Proofs.Ytjmklbkcpjmcaaa.H
set_option linter.unusedVariables false
set_option linter.unusedSimpArgs false

/-- of one direction -/
def Eqv (a b : Pt) : Prop := Ae a b ∧ Ae b a
theorem Eqv.refl {a : Pt} (h : hh a ≠ 0) : Eqv a a := ⟨Ae.refl h, Ae.refl h⟩
theorem Eqv.symm {a b : Pt} (h : Eqv a b) : Eqv b a := ⟨h.2, h.1⟩

theorem noX {a b c : Pt} (ha : 0 < hh a) (hb : 0 < hh b) (hc : hh c < 0) (h1 : 0 < cr a b) (h2 : 0 < cr a c) (h3 : cr b c ≤ 0) : False := by
  have pk := pluck a b c
  rw [cr_neg a c] at pk
  have e1 := mpn h1 hc
  have e2 := nnp h3 (Int.le_of_lt ha)
  have e3 := mnp (show -cr a c < 0 by omega) hb
  omega

def pt (p q : List Pt) (s : Nat × Nat) : Pt := ad (vt p s.1) (vt q s.2)
def nxS (p q : List Pt) (s : Nat × Nat) : Nat × Nat :=
  if s.2 = q.length ∨ (s.1 < p.length ∧ 0 ≤ cr (E p s.1) (E q s.2)) then
    (if s.2 < q.length ∧ cr (E p s.1) (E q s.2) = 0 then (s.1 + 1, s.2 + 1) else (s.1 + 1, s.2))
  else (s.1, s.2 + 1)
def run (p q : List Pt) : Nat → Nat × Nat
  | 0 => (0, 0)
  | t + 1 => nxS p q (run p q t)

structure At (p q : List Pt) (s : Nat × Nat) : Prop where
  i : s.1 ≤ p.length
  k : s.2 ≤ q.length
  a : 1 ≤ s.1 → s.2 < q.length → An (E p (s.1 - 1)) (E q s.2)
  b : 1 ≤ s.2 → s.1 < p.length → An (E q (s.2 - 1)) (E p s.1)

/-- the ways to go on -/
inductive Goes (p q : List Pt) (s : Nat × Nat) : Nat × Nat → Prop where
  | p : s.1 < p.length → (s.2 < q.length → An (E p s.1) (E q s.2)) → Goes p q s (s.1 + 1, s.2)
  | q : s.2 < q.length → (s.1 < p.length → An (E q s.2) (E p s.1)) → Goes p q s (s.1, s.2 + 1)
  | both : s.1 < p.length → s.2 < q.length → Eqv (E p s.1) (E q s.2) → Goes p q s (s.1 + 1, s.2 + 1)

theorem Sr.up0 {p : List Pt} (h : Sr p) : 0 < hh (E p 0) := by
  obtain ⟨m, m0, mn, hu, hd⟩ := h.top
  exact hu 0 m0

theorem Sr.turn {p : List Pt} (h : Sr p) {k : Nat} (hk : k + 1 < p.length) : 0 < cr (E p k) (E p (k + 1)) := by
  have := h.cv.turn (k := k) (by omega)
  rwa [Nat.mod_eq_of_lt hk] at this

/-- one does not lie half a turn before the other -/
theorem At.clash {p q : List Pt} {i k : Nat} (hp : Sr p) (h : 1 ≤ i → An (E p (i - 1)) (E q k)) (hi : i < p.length) (h1 : hh (E p i) < 0) (h2 : 0 < hh (E q k)) : cr (E p i) (E q k) < 0 := by
  refine Int.lt_of_not_ge fun hge => ?_
  have hi0 : 1 ≤ i := by
    rcases Nat.eq_zero_or_pos i with rfl | h3
    · have := hp.up0; omega
    · exact h3
  have ha := h hi0
  have ht := hp.turn (k := i - 1) (by omega)
  rw [show i - 1 + 1 = i by omega] at ht
  unfold An at ha
  exact noX (a := E p (i - 1)) (b := E q k) (c := E p i) (by omega) h2 h1 (by omega) ht (by rw [cr_neg]; omega)

theorem goes {p q : List Pt} {s : Nat × Nat} (hp : Sr p) (hq : Sr q) (h : At p q s) (hnot : s.1 < p.length ∨ s.2 < q.length) : Goes p q s (nxS p q s) := by
  obtain ⟨i, k⟩ := s
  obtain ⟨hi, hk, ha, hb⟩ := h
  simp only at hi hk ha hb hnot
  unfold nxS
  simp only
  split
  · next hc =>
    rcases Nat.lt_or_eq_of_le hk with hkm | hkm
    · have hin : i < p.length ∧ 0 ≤ cr (E p i) (E q k) := by
        rcases hc with h | h
        · omega
        · exact h
      have n1 := hp.ne i hin.1
      have n2 := hq.ne k hkm
      have c1 : ¬ (hh (E p i) < 0 ∧ 0 < hh (E q k)) := fun ⟨h1, h2⟩ => by
        have := At.clash hp (fun h => ha h hkm) hin.1 h1 h2; omega
      split
      · next h0 =>
        have c2 : ¬ (hh (E q k) < 0 ∧ 0 < hh (E p i)) := fun ⟨h1, h2⟩ => by
          have := At.clash hq (fun h => hb h hin.1) hkm h1 h2
          rw [cr_neg] at this; omega
        refine .both hin.1 hkm ?_
        have := cr_neg (E p i) (E q k)
        show Eqv (E p i) (E q k)
        unfold Eqv Ae
        omega
      · next h0 =>
        refine .p hin.1 fun _ => ?_
        show An (E p i) (E q k)
        unfold An
        omega
    · rw [if_neg (by omega)]
      exact .p (by omega) (fun h => by simp only at h; omega)
  · next hc =>
    refine .q (by simp only; omega) fun hin => ?_
    simp only at hin
    have hkm : k < q.length := by omega
    have n1 := hp.ne i hin
    have n2 := hq.ne k hkm
    have c2 : ¬ (hh (E q k) < 0 ∧ 0 < hh (E p i)) := fun ⟨h1, h2⟩ => by
      have := At.clash hq (fun h => hb h hin) hkm h1 h2
      rw [cr_neg] at this; omega
    have := cr_neg (E p i) (E q k)
    show An (E q k) (E p i)
    unfold An
    omega

/-- what is known of the edge that is gone along -/
structure Fine (p q : List Pt) (s s' : Nat × Nat) (d : Pt) : Prop where
  ne : hh d ≠ 0
  p1 : ∀ j, j < s.1 → An (E p j) d
  p2 : ∀ j, s.1 ≤ j → j < p.length → Ae d (E p j)
  q1 : ∀ j, j < s.2 → An (E q j) d
  q2 : ∀ j, s.2 ≤ j → j < q.length → Ae d (E q j)
  nxt : ∀ f, (∀ j, j < s'.1 → An (E p j) f) → (∀ j, j < s'.2 → An (E q j) f) → An d f
  isP : s.1 < s'.1 → Eqv d (E p s.1)
  isQ : s.2 < s'.2 → Eqv d (E q s.2)
  some : (s.1 < s'.1 ∧ s.1 < p.length) ∨ (s.2 < s'.2 ∧ s.2 < q.length)
  at' : At p q s'
  i1 : s'.1 = s.1 ∨ s'.1 = s.1 + 1
  k1 : s'.2 = s.2 ∨ s'.2 = s.2 + 1

theorem Sr.before {p : List Pt} (h : Sr p) {i : Nat} (hi : i ≤ p.length) {d : Pt} (hd : 1 ≤ i → An (E p (i - 1)) d) (j : Nat) (hj : j < i) : An (E p j) d := by
  rcases Nat.lt_or_eq_of_le (show j ≤ i - 1 by omega) with h1 | h1
  · exact (h.srt j (i - 1) h1 (by omega)).trans (hd (by omega))
  · subst h1; exact hd (by omega)
theorem Sr.after {p : List Pt} (h : Sr p) {i : Nat} {d : Pt} (hd : i < p.length → Ae d (E p i)) (j : Nat) (hj : i ≤ j) (hjn : j < p.length) : Ae d (E p j) := by
  rcases Nat.lt_or_eq_of_le hj with h1 | h1
  · exact (hd (by omega)).trans (h.srt i j h1 hjn).ae
  · subst h1; exact hd hjn

theorem fine {p q : List Pt} {s s' : Nat × Nat} (hp : Sr p) (hq : Sr q) (h : At p q s) (hg : Goes p q s s') : Fine p q s s' (sb (pt p q s') (pt p q s)) := by
  obtain ⟨i, k⟩ := s
  obtain ⟨hi, hk, ha, hb⟩ := h
  simp only at hi hk ha hb
  cases hg with
  | p h1 h2 =>
    simp only at h1 h2
    have e : sb (pt p q (i + 1, k)) (pt p q (i, k)) = E p i := by
      unfold pt sb ad E; exact Prod.ext (by simp only [sb]; omega) (by simp only [sb]; omega)
    rw [e]
    refine ⟨hp.ne i h1, fun j hj => hp.srt j i hj h1, hp.after (fun _ => Ae.refl (hp.ne i h1)), hq.before hk (fun h3 => hb h3 h1), hq.after (fun h3 => (h2 h3).ae), fun f h3 _ => h3 i (Nat.lt_succ_self i), fun _ => Eqv.refl (hp.ne i h1), fun h3 => by simp only at h3; omega, .inl ⟨Nat.lt_succ_self i, h1⟩, ⟨h1, hk, fun _ h3 => h2 h3, fun h3 h4 => (hb h3 h1).trans (hp.srt i (i + 1) (Nat.lt_succ_self i) h4)⟩, .inr rfl, .inl rfl⟩
  | q h1 h2 =>
    simp only at h1 h2
    have e : sb (pt p q (i, k + 1)) (pt p q (i, k)) = E q k := by
      unfold pt sb ad E; exact Prod.ext (by simp only [sb]; omega) (by simp only [sb]; omega)
    rw [e]
    refine ⟨hq.ne k h1, hp.before hi (fun h3 => ha h3 h1), hp.after (fun h3 => (h2 h3).ae), fun j hj => hq.srt j k hj h1, hq.after (fun _ => Ae.refl (hq.ne k h1)), fun f _ h3 => h3 k (Nat.lt_succ_self k), fun h3 => by simp only at h3; omega, fun _ => Eqv.refl (hq.ne k h1), .inr ⟨Nat.lt_succ_self k, h1⟩, ⟨hi, h1, fun h3 h4 => (ha h3 h1).trans (hq.srt k (k + 1) (Nat.lt_succ_self k) h4), fun _ h3 => h2 h3⟩, .inl rfl, .inr rfl⟩
  | both h1 h2 h3 =>
    simp only at h1 h2 h3
    have e : sb (pt p q (i + 1, k + 1)) (pt p q (i, k)) = ad (E p i) (E q k) := by
      unfold pt sb ad E; exact Prod.ext (by simp only [sb]; omega) (by simp only [sb]; omega)
    rw [e]
    have n1 := hp.ne i h1
    have n2 := hq.ne k h2
    have eP : Eqv (ad (E p i) (E q k)) (E p i) := by
      have a1 := cr_self (E p i)
      have a2 := cr_neg (E p i) (E q k)
      unfold Eqv Ae at h3 ⊢
      rw [cr_ad, cr_adL, hh_ad]
      omega
    have eQ : Eqv (ad (E p i) (E q k)) (E q k) := by
      have a1 := cr_self (E q k)
      have a2 := cr_neg (E p i) (E q k)
      unfold Eqv Ae at h3 ⊢
      rw [cr_ad, cr_adL, hh_ad]
      omega
    refine ⟨?_, fun j hj => (hp.srt j i hj h1).trans_ae eP.2, hp.after (fun _ => eP.1), fun j hj => (hq.srt j k hj h2).trans_ae eQ.2, hq.after (fun _ => eQ.1), fun f h4 _ => eP.1.trans_an (h4 i (Nat.lt_succ_self i)), fun _ => eP, fun _ => eQ, .inl ⟨Nat.lt_succ_self i, h1⟩, ⟨h1, h2, fun _ h4 => h3.1.trans_an (hq.srt k (k + 1) (Nat.lt_succ_self k) h4), fun _ h4 => h3.2.trans_an (hp.srt i (i + 1) (Nat.lt_succ_self i) h4)⟩, .inr rfl, .inr rfl⟩
    unfold Eqv Ae at h3
    rw [hh_ad]
    omega

theorem at0' (p q : List Pt) : At p q (run p q 0) := ⟨Nat.zero_le _, Nat.zero_le _, fun h => absurd h (by show ¬ 1 ≤ 0; omega), fun h => absurd h (by show ¬ 1 ≤ 0; omega)⟩

theorem sumR_run {p q : List Pt} (hp : Sr p) (hq : Sr q) : ∀ (fuel t : Nat), At p q (run p q t) → (p.length - (run p q t).1) + (q.length - (run p q t).2) ≤ fuel →
    ∃ N, (sumR p q fuel (run p q t).1 (run p q t).2).length = N ∧ run p q (t + N) = (p.length, q.length) ∧ ∀ j, j < N → nth (sumR p q fuel (run p q t).1 (run p q t).2) j = pt p q (run p q (t + j)) ∧ At p q (run p q (t + j)) ∧ ((run p q (t + j)).1 < p.length ∨ (run p q (t + j)).2 < q.length)
  | 0, t, h, hf => by
    have h1 := h.i
    have h2 := h.k
    exact ⟨0, rfl, Prod.ext (show (run p q t).1 = p.length by omega) (show (run p q t).2 = q.length by omega), fun j hj => by omega⟩
  | fuel + 1, t, h, hf => by
    have h1 := h.i
    have h2 := h.k
    by_cases hnot : (run p q t).1 < p.length ∨ (run p q t).2 < q.length
    · have hg := goes hp hq h hnot
      have hfi := fine hp hq h hg
      have e : nxS p q (run p q t) = run p q (t + 1) := rfl
      rw [e] at hfi
      obtain ⟨N, g1, g2, g3⟩ := sumR_run hp hq fuel (t + 1) hfi.at' (by
        have := hfi.at'.i
        have := hfi.at'.k
        have := hfi.i1
        have := hfi.k1
        have := hfi.some
        omega)
      have es : sumR p q (fuel + 1) (run p q t).1 (run p q t).2 = pt p q (run p q t) :: sumR p q fuel (run p q (t + 1)).1 (run p q (t + 1)).2 := by
        rw [sumR, if_pos hnot]
        congr 1
        have er : run p q (t + 1) = nxS p q (run p q t) := rfl
        rw [er]
        unfold nxS
        have ee : ∀ i k, crossP (ed p i) (ed q k) = cr (E p i) (E q k) := fun _ _ => rfl
        simp only [ee]
        (repeat' split) <;> rfl
      refine ⟨N + 1, by rw [es, List.length_cons, g1], by rw [show t + (N + 1) = t + 1 + N by omega]; exact g2, fun j hj => ?_⟩
      cases j with
      | zero => exact ⟨by rw [es]; rfl, h, hnot⟩
      | succ j =>
        obtain ⟨k1, k2, k3⟩ := g3 j (by omega)
        rw [show t + (j + 1) = t + 1 + j by omega]
        exact ⟨by rw [es]; exact k1, k2, k3⟩
    · refine ⟨0, by rw [sumR, if_neg hnot]; rfl, Prod.ext (show (run p q t).1 = p.length by omega) (show (run p q t).2 = q.length by omega), fun j hj => by omega⟩

structure SumSpec (p q S : List Pt) : Prop where
  sr : Sr S
  at' : ∀ t, t < S.length → ∃ i k, i ≤ p.length ∧ k ≤ q.length ∧ vt S t = ad (vt p i) (vt q k) ∧ (∀ j, j < i → An (E p j) (E S t)) ∧ (∀ j, i ≤ j → j < p.length → Ae (E S t) (E p j)) ∧
    (∀ j, j < k → An (E q j) (E S t)) ∧ (∀ j, k ≤ j → j < q.length → Ae (E S t) (E q j)) ∧ ((i < p.length ∧ Eqv (E S t) (E p i)) ∨ (k < q.length ∧ Eqv (E S t) (E q k)))
  hasP : ∀ i, i < p.length → ∃ t, t < S.length ∧ Eqv (E S t) (E p i)
  hasQ : ∀ k, k < q.length → ∃ t, t < S.length ∧ Eqv (E S t) (E q k)
  len : S.length ≤ p.length + q.length

theorem sum_spec {p q : List Pt} (hp : Sr p) (hq : Sr q) : SumSpec p q (sumF p q) := by
  obtain ⟨N, g1, g2, g3⟩ := sumR_run hp hq (p.length + q.length) 0 (at0' p q) (by show p.length - 0 + (q.length - 0) ≤ _; omega)
  have g1' : (sumF p q).length = N := g1
  have g3' : ∀ j, j < N → nth (sumF p q) j = pt p q (run p q j) ∧ At p q (run p q j) ∧ ((run p q j).1 < p.length ∨ (run p q j).2 < q.length) := fun j hj => by
    have := g3 j hj
    rw [Nat.zero_add] at this
    exact this
  have g2' : run p q N = (p.length, q.length) := by rw [Nat.zero_add] at g2; exact g2
  have hlen := sumR_len p q (p.length + q.length) 0 0
  have hlen' : (sumF p q).length ≤ p.length + q.length := hlen
  clear g1 g2 g3 hlen
  generalize sumF p q = S at *
  subst g1'
  have hpl := hp.len
  have hfine : ∀ t, t < S.length → Fine p q (run p q t) (run p q (t + 1)) (sb (pt p q (run p q (t + 1))) (pt p q (run p q t))) := fun t ht => by
    obtain ⟨_, k2, k3⟩ := g3' t ht
    exact fine hp hq k2 (goes hp hq k2 k3)
  have hle : ∀ t, t ≤ S.length → (run p q t).1 ≤ t ∧ (run p q t).2 ≤ t := by
    intro t
    induction t with
    | zero => exact fun _ => ⟨Nat.le_refl _, Nat.le_refl _⟩
    | succ t ih =>
      intro ht
      have := ih (by omega)
      have hf := hfine t (by omega)
      have := hf.i1
      have := hf.k1
      omega
  have hlN := (hle S.length (Nat.le_refl _)).1
  rw [g2'] at hlN
  simp only at hlN
  have hv : ∀ t, t ≤ S.length → vt S t = pt p q (run p q t) := fun t ht => by
    rcases Nat.lt_or_eq_of_le ht with h | rfl
    · rw [vt_lt h]; exact (g3' t h).1
    · rw [vt_n, vt_lt (by omega), (g3' 0 (by omega)).1, g2']
      show ad (vt p 0) (vt q 0) = ad (vt p p.length) (vt q q.length)
      rw [vt_n, vt_n]
  have hE : ∀ t, t < S.length → E S t = sb (pt p q (run p q (t + 1))) (pt p q (run p q t)) := fun t ht => by
    unfold E; rw [hv t (by omega), hv (t + 1) ht]
  have hF : ∀ t, t < S.length → Fine p q (run p q t) (run p q (t + 1)) (E S t) := fun t ht => by rw [hE t ht]; exact hfine t ht
  have con : ∀ t, t + 1 < S.length → An (E S t) (E S (t + 1)) := fun t ht =>
    (hF t (by omega)).nxt _ (hF (t + 1) ht).p1 (hF (t + 1) ht).q1
  refine ⟨⟨by omega, fun t ht => (hF t ht).ne, ?_⟩, fun t ht => ?_, ?_, ?_, hlen'⟩
  · intro i j hij
    induction j with
    | zero => omega
    | succ j ih =>
      intro hj
      rcases Nat.lt_or_eq_of_le (Nat.le_of_lt_succ hij) with h1 | h1
      · exact (ih h1 (by omega)).trans (con j hj)
      · subst h1; exact con i hj
  · have hf := hF t ht
    refine ⟨_, _, (g3' t ht).2.1.i, (g3' t ht).2.1.k, hv t (by omega), hf.p1, hf.p2, hf.q1, hf.q2, ?_⟩
    rcases hf.some with ⟨h1, h2⟩ | ⟨h1, h2⟩
    · exact .inl ⟨h2, hf.isP h1⟩
    · exact .inr ⟨h2, hf.isQ h1⟩
  · intro i hi
    have key : ∀ t, t ≤ S.length → i < (run p q t).1 → ∃ u, u < t ∧ (run p q u).1 = i ∧ i < (run p q (u + 1)).1 := by
      intro t
      induction t with
      | zero => intro _ h; exact absurd h (Nat.not_lt_zero _)
      | succ t ih =>
        intro ht h
        by_cases h1 : i < (run p q t).1
        · obtain ⟨u, h2, h3⟩ := ih (by omega) h1
          exact ⟨u, by omega, h3⟩
        · have := (hF t (by omega)).i1
          exact ⟨t, by omega, by omega, h⟩
    obtain ⟨u, h1, h2, h3⟩ := key S.length (Nat.le_refl _) (by rw [g2']; exact hi)
    refine ⟨u, h1, ?_⟩
    have := (hF u h1).isP (by omega)
    rw [h2] at this
    exact this
  · intro k hk
    have key : ∀ t, t ≤ S.length → k < (run p q t).2 → ∃ u, u < t ∧ (run p q u).2 = k ∧ k < (run p q (u + 1)).2 := by
      intro t
      induction t with
      | zero => intro _ h; exact absurd h (Nat.not_lt_zero _)
      | succ t ih =>
        intro ht h
        by_cases h1 : k < (run p q t).2
        · obtain ⟨u, h2, h3⟩ := ih (by omega) h1
          exact ⟨u, by omega, h3⟩
        · have := (hF t (by omega)).k1
          exact ⟨t, by omega, by omega, h⟩
    obtain ⟨u, h1, h2, h3⟩ := key S.length (Nat.le_refl _) (by rw [g2']; exact hk)
    refine ⟨u, h1, ?_⟩
    have := (hF u h1).isQ (by omega)
    rw [h2] at this
    exact this

end Go.Proofs.Ytjmklbkcpjmcaaa.V

namespace Go.Proofs.Ytjmklbkcpjmcaaa.V
open Go Go.RowKit Go.Proofs.Ytjmklbkcpjmcaaa.H
set_option linter.unusedVariables false
set_option linter.unusedSimpArgs false

/-- a corner of a sum is the sum of the corners -/
theorem SumSpec.corner {p q S : List Pt} (h : SumSpec p q S) (hp : Sr p) (hq : Sr q) {t : Nat} (ht : t < S.length) : ∃ a b, a ∈ p ∧ b ∈ q ∧ vt S t = ad a b ∧
    (∀ y ∈ p, cr (E S t) a ≤ cr (E S t) y) ∧ (∀ y ∈ q, cr (E S t) b ≤ cr (E S t) y) ∧ (∀ x, InC p x → cr (E S t) a ≤ cr (E S t) x) := by
  obtain ⟨i, k, hi, hk, hv, p1, p2, q1, q2, _⟩ := h.at' t ht
  have hne := h.sr.ne t ht
  have lp := hp.len
  have lq := hq.len
  refine ⟨vt p i, vt q k, vt_mem (by omega) i, vt_mem (by omega) k, hv, fun y hy => ?_, fun y hy => ?_, fun x hx => (hp.cone hne hi p1 p2 x).1 hx⟩
  · obtain ⟨j, hj, rfl⟩ := mem_vt hy
    exact hp.supp hne hi (fun i hi => (p1 i hi).ae) p2 j (by omega)
  · obtain ⟨j, hj, rfl⟩ := mem_vt hy
    exact hq.supp hne hk (fun i hi => (q1 i hi).ae) q2 j (by omega)

theorem SumSpec.mem {p q S : List Pt} (h : SumSpec p q S) (hp : Sr p) (hq : Sr q) {v : Pt} (hv : v ∈ S) : ∃ a b, a ∈ p ∧ b ∈ q ∧ v = ad a b := by
  obtain ⟨t, ht, rfl⟩ := mem_vt hv
  obtain ⟨a, b, h1, h2, h3, _⟩ := h.corner hp hq ht
  exact ⟨a, b, h1, h2, h3⟩

/-- the sum with a third polygon of one that lies in another one -/
theorem sum_in {p q r : List Pt} (hp : Sr p) (hq : Sr q) (hr : Sr r) (hin : ∀ y ∈ p, InC q y) : ∀ v ∈ sumF p r, InC (sumF q r) v := by
  intro v hv t ht
  obtain ⟨a, b, ha, hb, rfl⟩ := (sum_spec hp hr).mem hp hr hv
  obtain ⟨c, d, _, _, h3, h4, h5, h6⟩ := (sum_spec hq hr).corner hq hr ht
  rw [side_E ht, h3, cr_ad, cr_ad]
  have := h6 a (hin a ha)
  have := h5 b hb
  omega

theorem inside_spec {p q : List Pt} (h : InsideF p q = (true, 0)) : validF p = true ∧ validF q = true ∧ ∀ y ∈ p, InC q y := by
  unfold InsideF at h
  split at h
  · next hv =>
    simp only [Bool.and_eq_true] at hv
    refine ⟨hv.1, hv.2, fun y hy => ?_⟩
    have := (Prod.mk.injEq _ _ _ _ ▸ h).1
    simp only [Bool.not_eq_true', List.any_eq_false, decide_eq_true_eq] at this
    exact Classical.not_not.1 fun hn => this y hy ((place_lt q y).2 hn)
  · simp at h
theorem inside_of {p q : List Pt} (hp : validF p = true) (hq : validF q = true) (h : ∀ y ∈ p, InC q y) : InsideF p q = (true, 0) := by
  unfold InsideF
  rw [if_pos (by rw [hp, hq]; rfl)]
  have : p.any (fun v => decide (placeF q v < 0)) = false := by
    simp only [List.any_eq_false, decide_eq_true_eq]
    exact fun y hy hn => (place_lt q y).1 hn (h y hy)
  rw [this]; rfl

theorem sum_valid {p q : List Pt} (h : (SumF p q).2 = 0) : validF p = true ∧ validF q = true ∧ (SumF p q).1 = sumF p q ∧ validF (sumF p q) = true := by
  unfold SumF at h ⊢
  split at h
  · next hv =>
    rw [if_pos hv]
    simp only [Bool.and_eq_true] at hv
    simp only at h
    have hs := madeE_spec h
    exact ⟨hv.1, hv.2, by rw [madeL, if_pos h], valid_of_sr (sum_spec (valid_sr hv.1) (valid_sr hv.2)).sr hs.2 hs.1⟩
  · simp at h

theorem nested_sum {p q r : List Pt} (h : InsideF p q = (true, 0)) (h1 : (SumF p r).2 = 0) (h2 : (SumF q r).2 = 0) : InsideF (SumF p r).1 (SumF q r).1 = (true, 0) := by
  obtain ⟨vp, vq, hin⟩ := inside_spec h
  obtain ⟨_, vr, e1, v1⟩ := sum_valid h1
  obtain ⟨_, _, e2, v2⟩ := sum_valid h2
  rw [e1, e2]
  exact inside_of v1 v2 (sum_in (valid_sr vp) (valid_sr vq) (valid_sr vr) hin)

/-! directions that separate -/
theorem sepB_iff {p q : List Pt} (hp : 0 < p.length) (hq : 0 < q.length) (d : Pt) : sepB p q d = true ↔ ∀ v ∈ p, ∀ u ∈ q, dotP d v ≤ dotP d u := by
  unfold sepB
  rw [decide_eq_true_eq]
  obtain ⟨x, hx, ex⟩ := extF_mem (ps := p) d hp
  obtain ⟨y, hy, ey⟩ := extF_mem (ps := q) (vNeg d) hq
  rw [dot_negL] at ey
  constructor
  · intro h v hv u hu
    have h1 := extF_max (d := d) hv
    have h2 := extF_max (d := vNeg d) hu
    rw [dot_negL] at h2
    omega
  · intro h
    have := h x hx y hy
    omega

/-- p lies on the left of a line of direction e, and q does not -/
def SepE (p q : List Pt) (e : Pt) : Prop := ∀ v ∈ p, ∀ u ∈ q, cr e u ≤ cr e v

theorem dot_dirP {p : List Pt} {k : Nat} (hk : k < p.length) (v : Pt) : dotP (dirP p k) v = - cr (E p k) v := by
  rw [E_eq hk]
  unfold dotP dotI dirP cr sb
  simp only
  grind
theorem dot_dirQ {p : List Pt} {k : Nat} (hk : k < p.length) (v : Pt) : dotP (dirQ p k) v = cr (E p k) v := by
  rw [E_eq hk]
  unfold dotP dotI dirQ cr sb
  simp only
  grind
theorem cr_vNeg (a b : Pt) : cr (vNeg a) b = - cr a b := by unfold cr vNeg; grind
theorem cr_vNegR (a b : Pt) : cr a (vNeg b) = - cr a b := by unfold cr vNeg; grind

theorem sep_dirP {p q : List Pt} (hp : 0 < p.length) (hq : 0 < q.length) {k : Nat} (hk : k < p.length) : sepB p q (dirP p k) = true ↔ SepE p q (E p k) := by
  rw [sepB_iff hp hq]
  unfold SepE
  simp only [dot_dirP hk]
  exact ⟨fun h v hv u hu => by have := h v hv u hu; omega, fun h v hv u hu => by have := h v hv u hu; omega⟩
theorem sep_dirQ {p q : List Pt} (hp : 0 < p.length) (hq : 0 < q.length) {k : Nat} (hk : k < q.length) : sepB p q (dirQ q k) = true ↔ SepE p q (vNeg (E q k)) := by
  rw [sepB_iff hp hq]
  unfold SepE
  simp only [dot_dirQ hk, cr_vNeg]
  exact ⟨fun h v hv u hu => by have := h v hv u hu; omega, fun h v hv u hu => by have := h v hv u hu; omega⟩

theorem SepE.eqv {p q : List Pt} {a b : Pt} (h : SepE p q a) (hab : Eqv a b) : SepE p q b := by
  have hne : (0 < hh a ∧ 0 < hh b) ∨ (hh a < 0 ∧ hh b < 0) := by unfold Eqv Ae at hab; omega
  have hc : cr a b = 0 := by
    have := cr_neg a b
    unfold Eqv Ae at hab; omega
  have key : ∀ x, cr b x * hh a = cr a x * hh b := fun x => by
    have pk := pluck a b x
    rw [hc, Int.zero_mul, cr_neg a x] at pk
    have : -cr a x * hh b = -(cr a x * hh b) := Int.neg_mul _ _
    omega
  intro v hv u hu
  have h1 := h v hv u hu
  have k1 := key v
  have k2 := key u
  rcases hne with ⟨n1, n2⟩ | ⟨n1, n2⟩
  · have e := npp (show 0 ≤ cr a v - cr a u by omega) (Int.le_of_lt n2)
    rw [Int.sub_mul] at e
    have := fnon (a := cr b v - cr b u) (b := hh a) (by rw [Int.sub_mul]; omega) n1
    omega
  · have e := npn (show 0 ≤ cr a v - cr a u by omega) (Int.le_of_lt n2)
    rw [Int.sub_mul] at e
    have := gnon (a := cr b v - cr b u) (b := hh a) (by rw [Int.sub_mul]; omega) n1
    omega

theorem parted_sep {p q : List Pt} (hp : 0 < p.length) (hq : 0 < q.length) : (partedF p q).2 = true ↔ (∃ k, k < p.length ∧ SepE p q (E p k)) ∨ ∃ k, k < q.length ∧ SepE p q (vNeg (E q k)) := by
  rw [parted_iff]
  exact or_congr ⟨fun ⟨k, h1, h2⟩ => ⟨k, h1, (sep_dirP hp hq h1).1 h2⟩, fun ⟨k, h1, h2⟩ => ⟨k, h1, (sep_dirP hp hq h1).2 h2⟩⟩ ⟨fun ⟨k, h1, h2⟩ => ⟨k, h1, (sep_dirQ hp hq h1).1 h2⟩, fun ⟨k, h1, h2⟩ => ⟨k, h1, (sep_dirQ hp hq h1).2 h2⟩⟩

theorem SepE.swap {p q : List Pt} {e : Pt} : SepE p q e ↔ SepE q p (vNeg e) := by
  unfold SepE
  simp only [cr_vNeg]
  exact ⟨fun h v hv u hu => by have := h u hu v hv; omega, fun h v hv u hu => by have := h u hu v hv; omega⟩

theorem parted_swap {p q : List Pt} (hp : 0 < p.length) (hq : 0 < q.length) : (partedF q p).2 = (partedF p q).2 := by
  apply bool_eq_of_iff
  rw [parted_sep hp hq, parted_sep hq hp]
  have e1 : ∀ e, SepE q p (vNeg e) ↔ SepE p q e := fun e => SepE.swap.symm
  have e2 : ∀ e, SepE q p e ↔ SepE p q (vNeg e) := fun e => SepE.swap
  simp only [e1, e2]
  exact Or.comm

theorem Mir.edges {q o : List Pt} (h : Mir q o) (hq : 0 < q.length) (Q : Pt → Prop) : (∃ k, k < o.length ∧ Q (E o k)) ↔ ∃ k, k < q.length ∧ Q (vNeg (E q k)) := by
  obtain ⟨m, hm, hr⟩ := h.rot
  have e : ∀ k, k < q.length → E o k = vNeg (E q ((k + m) % q.length)) := fun k hk => by
    have hk' : (k + m) % q.length < q.length := Nat.mod_lt _ hq
    rw [E_eq (by rw [h.len]; exact hk), (hr k hk).1, (hr k hk).2, E_eq hk']
    unfold sb vNeg
    exact Prod.ext (by simp only; omega) (by simp only; omega)
  rw [h.len, ← ex_rot (fun k => Q (vNeg (E q k))) q.length m hm]
  exact ⟨fun ⟨k, h1, h2⟩ => ⟨k, h1, by rw [← e k h1]; exact h2⟩, fun ⟨k, h1, h2⟩ => ⟨k, h1, by rw [e k h1]; exact h2⟩⟩

/-- two polygons are parted exactly if zero is not in the interior of the sum of one and the mirror image of the other one -/
theorem parted_zero {p q o S : List Pt} (hp : Sr p) (hq : Sr q) (ho : Sr o) (hm : Mir q o) (hS : SumSpec p o S) : (partedF p q).2 = true ↔ ¬ InI S (0, 0) := by
  have lp := hp.len
  have lq := hq.len
  rw [parted_sep (by omega) (by omega), ← hm.edges (by omega) (SepE p q)]
  have h1 : ((∃ k, k < p.length ∧ SepE p q (E p k)) ∨ ∃ k, k < o.length ∧ SepE p q (E o k)) ↔ ∃ t, t < S.length ∧ SepE p q (E S t) := by
    constructor
    · rintro (⟨k, hk, h⟩ | ⟨k, hk, h⟩)
      · obtain ⟨t, ht, he⟩ := hS.hasP k hk
        exact ⟨t, ht, h.eqv he.symm⟩
      · obtain ⟨t, ht, he⟩ := hS.hasQ k hk
        exact ⟨t, ht, h.eqv he.symm⟩
    · rintro ⟨t, ht, h⟩
      obtain ⟨i, k, _, _, _, _, _, _, _, h9⟩ := hS.at' t ht
      rcases h9 with ⟨hi, he⟩ | ⟨hi, he⟩
      · exact .inl ⟨i, hi, h.eqv he⟩
      · exact .inr ⟨k, hi, h.eqv he⟩
  have h2 : ∀ t, t < S.length → (SepE p q (E S t) ↔ ¬ 0 < side S (0, 0) t) := fun t ht => by
    obtain ⟨a, b, ha, hb, hv, k1, k2, _⟩ := hS.corner hp ho ht
    obtain ⟨u, hu, rfl⟩ := (hm.mem b).1 hb
    have e0 : cr (E S t) (0, 0) = 0 := by unfold cr; simp
    rw [side_E ht, hv, cr_ad, cr_vNegR, e0]
    constructor
    · intro h; have := h a ha u hu; omega
    · intro h v hv' w hw
      have g1 := k1 v hv'
      have g2 := k2 (vNeg w) ((hm.mem _).2 ⟨w, hw, rfl⟩)
      rw [cr_vNegR, cr_vNegR] at g2
      omega
  rw [h1]
  unfold InI
  constructor
  · rintro ⟨t, ht, h⟩ hall
    exact (h2 t ht).1 h (hall t ht)
  · intro h
    obtain ⟨t, ht⟩ := Classical.not_forall.1 h
    obtain ⟨ht1, ht2⟩ := Classical.not_imp.1 ht
    exact ⟨t, ht1, (h2 t ht1).2 ht2⟩

theorem firstD_spec {f : Nat → Pt} {s : Pt → Bool} {n : Nat} {d : Pt} (h : firstD f s n = some d) : ∃ k, k < n ∧ d = f k ∧ s d = true := by
  unfold firstD at h
  have h1 := List.find?_some h
  have h2 := List.mem_of_find?_eq_some h
  obtain ⟨k, hk, rfl⟩ := List.mem_map.1 h2
  exact ⟨k, List.mem_range.1 hk, rfl, h1⟩

theorem parted_dir {p q : List Pt} (hp : Sr p) (hq : Sr q) (h : (partedF p q).2 = true) : (partedF p q).1 ≠ (0, 0) ∧ ∀ v ∈ p, ∀ u ∈ q, dotP (partedF p q).1 v ≤ dotP (partedF p q).1 u := by
  have lp := hp.len
  have lq := hq.len
  have zP : ∀ k, k < p.length → dirP p k ≠ (0, 0) := fun k hk e => by
    have := hp.ne k hk
    rw [E_eq hk] at this
    unfold dirP at e
    simp only [Prod.mk.injEq] at e
    apply this
    unfold hh sb
    simp only
    omega
  have zQ : ∀ k, k < q.length → dirQ q k ≠ (0, 0) := fun k hk e => by
    have := hq.ne k hk
    rw [E_eq hk] at this
    unfold dirQ at e
    simp only [Prod.mk.injEq] at e
    apply this
    unfold hh sb
    simp only
    omega
  unfold partedF at h ⊢
  cases h1 : firstD (dirP p) (sepB p q) p.length with
  | some d =>
    obtain ⟨k, hk, rfl, hs⟩ := firstD_spec h1
    exact ⟨zP k hk, (sepB_iff (by omega) (by omega) _).1 hs⟩
  | none =>
    rw [h1] at h
    cases h2 : firstD (dirQ q) (sepB p q) q.length with
    | some d =>
      obtain ⟨k, hk, rfl, hs⟩ := firstD_spec h2
      exact ⟨zQ k hk, (sepB_iff (by omega) (by omega) _).1 hs⟩
    | none => rw [h2] at h; simp at h

/-- what ConvexSeparates claims of two polygons -/
structure SepM (p q : List Pt) : Prop where
  f0 : (SeparateF p q).2 = if (OverlapF p q).1 then 10 else 0
  dir : (SeparateF p q).2 = 0 → (SeparateF p q).1 ≠ (0, 0) ∧ ∀ v ∈ p, ∀ u ∈ q, dotP (SeparateF p q).1 v ≤ dotP (SeparateF p q).1 u
  ov : OverlapF q p = ((OverlapF p q).1, 0)
  fl : (FlipF q).2 = 0
  sm : (SumF p (FlipF q).1).2 = 0 ∨ (SumF p (FlipF q).1).2 = 4 ∨ (SumF p (FlipF q).1).2 = 8
  at0 : (SumF p (FlipF q).1).2 = 0 → (PlaceF (SumF p (FlipF q).1).1 (0, 0)).2 = 0 ∧ ((PlaceF (SumF p (FlipF q).1).1 (0, 0)).1 = 1 ↔ (OverlapF p q).1 = true)

theorem sep_spec {p q : List Pt} (h : (OverlapF p q).2 = 0) : SepM p q := by
  have hv : validF p = true ∧ validF q = true := by
    unfold OverlapF at h
    split at h
    · next h1 => simpa using h1
    · simp at h
  obtain ⟨vp, vq⟩ := hv
  have hpq : (validF p && validF q) = true := by rw [vp, vq]; rfl
  have hqp : (validF q && validF p) = true := by rw [vp, vq]; rfl
  have sp := valid_sr vp
  have sq := valid_sr vq
  have lp := sp.len
  have lq := sq.len
  have eo : OverlapF p q = (!(partedF p q).2, 0) := by unfold OverlapF; rw [if_pos hpq]
  have es : SeparateF p q = if (partedF p q).2 then ((partedF p q).1, 0) else ((0, 0), 10) := by unfold SeparateF; rw [if_pos hpq]
  have ef : FlipF q = (hullF (q.map vNeg), 0) := by unfold FlipF; rw [if_pos vq]
  obtain ⟨hm, vo⟩ := flip_spec vq
  have hvo : (validF p && validF (hullF (q.map vNeg))) = true := by rw [vp, vo]; rfl
  have so := valid_sr vo
  have eS : SumF p (hullF (q.map vNeg)) = (madeL (sumF p (hullF (q.map vNeg))), madeE (sumF p (hullF (q.map vNeg)))) := by unfold SumF; rw [if_pos hvo]
  have hS := sum_spec sp so
  refine ⟨?_, ?_, ?_, by rw [ef], ?_, ?_⟩
  · rw [es, eo]; cases (partedF p q).2 <;> rfl
  · rw [es]
    cases hpt : (partedF p q).2 with
    | true => intro _; rw [if_pos rfl]; exact parted_dir sp sq hpt
    | false => intro h0; rw [if_neg (by simp)] at h0; simp at h0
  · unfold OverlapF
    rw [if_pos hqp, if_pos hpq, parted_swap (by omega) (by omega)]
  · rw [ef]; simp only
    rw [eS]
    simp only
    unfold madeE
    (repeat' split) <;> simp
  · rw [ef]; simp only
    intro h0
    obtain ⟨_, _, e1, e2⟩ := sum_valid h0
    rw [e1]
    unfold PlaceF
    rw [if_pos (by rw [e2]; rfl)]
    refine ⟨rfl, ?_⟩
    rw [place_one, eo]
    have := parted_zero sp sq so hm hS
    cases hpt : (partedF p q).2 with
    | true => rw [hpt] at this; simp [this.1 rfl]
    | false =>
      rw [hpt] at this
      simp only [Bool.not_false, iff_true]
      exact Classical.not_not.1 fun hn => absurd (this.2 hn) (by simp)

end Go.Proofs.Ytjmklbkcpjmcaaa.V
