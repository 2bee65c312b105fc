/-
  Vectors of the plane, plainly: cross products, halves, the order by angle.
-/
import Derived.Test.YtoghphikfkdkmaaV2
namespace Go.Proofs.Ytoghphikfkdkmaa.V
open Go Go.RowKit Go.Proofs.Ytoghphikfkdkmaa.H
set_option linter.unusedVariables false
set_option linter.unusedSimpArgs false

def cr (a b : Pt) : Int := a.1 * b.2 - a.2 * b.1
/-- a linear function whose sign says which half a short vector points into -/
def hh (a : Pt) : Int := 1000000 * a.2 + a.1
def sb (a b : Pt) : Pt := (a.1 - b.1, a.2 - b.2)
def ad (a b : Pt) : Pt := (a.1 + b.1, a.2 + b.2)

theorem pluck (a b c : Pt) : cr a b * hh c + cr b c * hh a + cr c a * hh b = 0 := by
  unfold cr hh; grind
theorem cr_neg (a b : Pt) : cr b a = - cr a b := by unfold cr; grind
theorem cr_self (a : Pt) : cr a a = 0 := by unfold cr; grind
theorem cr_sb (e a b : Pt) : cr e (sb a b) = cr e a - cr e b := by unfold cr sb; grind
theorem cr_sbL (e a b : Pt) : cr (sb a b) e = cr a e - cr b e := by unfold cr sb; grind
theorem cr_ad (e a b : Pt) : cr e (ad a b) = cr e a + cr e b := by unfold cr ad; grind
theorem cr_adL (e a b : Pt) : cr (ad a b) e = cr a e + cr b e := by unfold cr ad; grind
theorem hh_sb (a b : Pt) : hh (sb a b) = hh a - hh b := by unfold hh sb; simp only; omega
theorem hh_ad (a b : Pt) : hh (ad a b) = hh a + hh b := by unfold hh ad; simp only; omega
theorem trn_cr (a b c : Pt) : trn a b c = cr (sb b a) (sb c a) := rfl

/-! products and signs -/
theorem mpp {a b : Int} (h : 0 < a) (k : 0 < b) : 0 < a * b := Int.mul_pos h k
theorem mpn {a b : Int} (h : 0 < a) (k : b < 0) : a * b < 0 := Int.mul_neg_of_pos_of_neg h k
theorem mnp {a b : Int} (h : a < 0) (k : 0 < b) : a * b < 0 := Int.mul_neg_of_neg_of_pos h k
theorem mnn {a b : Int} (h : a < 0) (k : b < 0) : 0 < a * b := Int.mul_pos_of_neg_of_neg h k
theorem npp {a b : Int} (h : 0 ≤ a) (k : 0 ≤ b) : 0 ≤ a * b := Int.mul_nonneg h k
theorem npn {a b : Int} (h : 0 ≤ a) (k : b ≤ 0) : a * b ≤ 0 := Int.mul_nonpos_of_nonneg_of_nonpos h k
theorem nnp {a b : Int} (h : a ≤ 0) (k : 0 ≤ b) : a * b ≤ 0 := Int.mul_nonpos_of_nonpos_of_nonneg h k
theorem nnn {a b : Int} (h : a ≤ 0) (k : b ≤ 0) : 0 ≤ a * b := Int.mul_nonneg_of_nonpos_of_nonpos h k
theorem fpos {a b : Int} (h : 0 < a * b) (k : 0 < b) : 0 < a := by
  rcases Int.lt_trichotomy a 0 with h1 | h1 | h1
  · have := mnp h1 k; omega
  · rw [h1, Int.zero_mul] at h; omega
  · exact h1
theorem fneg {a b : Int} (h : a * b < 0) (k : 0 < b) : a < 0 := by
  rcases Int.lt_trichotomy a 0 with h1 | h1 | h1
  · exact h1
  · rw [h1, Int.zero_mul] at h; omega
  · have := mpp h1 k; omega
theorem fnon {a b : Int} (h : 0 ≤ a * b) (k : 0 < b) : 0 ≤ a := by
  rcases Int.lt_or_le a 0 with h1 | h1
  · have := mnp h1 k; omega
  · exact h1
theorem fnop {a b : Int} (h : a * b ≤ 0) (k : 0 < b) : a ≤ 0 := by
  rcases Int.lt_or_le 0 a with h1 | h1
  · have := mpp h1 k; omega
  · exact h1
theorem gpos {a b : Int} (h : a * b < 0) (k : b < 0) : 0 < a := by
  rcases Int.lt_trichotomy a 0 with h1 | h1 | h1
  · have := mnn h1 k; omega
  · rw [h1, Int.zero_mul] at h; omega
  · exact h1
theorem gneg {a b : Int} (h : 0 < a * b) (k : b < 0) : a < 0 := by
  rcases Int.lt_trichotomy a 0 with h1 | h1 | h1
  · exact h1
  · rw [h1, Int.zero_mul] at h; omega
  · have := mpn h1 k; omega
theorem gnon {a b : Int} (h : a * b ≤ 0) (k : b < 0) : 0 ≤ a := by
  rcases Int.lt_or_le a 0 with h1 | h1
  · have := mnn h1 k; omega
  · exact h1
theorem gnop {a b : Int} (h : 0 ≤ a * b) (k : b < 0) : a ≤ 0 := by
  rcases Int.lt_or_le 0 a with h1 | h1
  · have := mpn h1 k; omega
  · exact h1

/-! three vectors -/
/-- from one half: the order by angle is transitive -/
theorem up_trans {a b c : Pt} (ha : 0 < hh a) (hb : 0 < hh b) (hc : 0 < hh c) (h1 : 0 < cr a b) (h2 : 0 < cr b c) : 0 < cr a c := by
  have h := pluck a b c
  rw [cr_neg a c] at h
  have e1 := mpp h1 hc
  have e2 := mpp h2 ha
  exact fpos (by grind) hb
theorem up_trans_e {a b c : Pt} (ha : 0 < hh a) (hb : 0 < hh b) (hc : 0 < hh c) (h1 : 0 ≤ cr a b) (h2 : 0 ≤ cr b c) : 0 ≤ cr a c := by
  have h := pluck a b c
  rw [cr_neg a c] at h
  have e1 := npp h1 (Int.le_of_lt hc)
  have e2 := npp h2 (Int.le_of_lt ha)
  exact fnon (by grind) hb
theorem up_trans_s {a b c : Pt} (ha : 0 < hh a) (hb : 0 < hh b) (hc : 0 < hh c) (h1 : 0 < cr a b) (h2 : 0 ≤ cr b c) : 0 < cr a c := by
  have h := pluck a b c
  rw [cr_neg a c] at h
  have e1 := mpp h1 hc
  have e2 := npp h2 (Int.le_of_lt ha)
  exact fpos (by grind) hb
theorem up_trans_t {a b c : Pt} (ha : 0 < hh a) (hb : 0 < hh b) (hc : 0 < hh c) (h1 : 0 ≤ cr a b) (h2 : 0 < cr b c) : 0 < cr a c := by
  have h := pluck a b c
  rw [cr_neg a c] at h
  have e1 := npp h1 (Int.le_of_lt hc)
  have e2 := mpp h2 ha
  exact fpos (by grind) hb
theorem dn_trans {a b c : Pt} (ha : hh a < 0) (hb : hh b < 0) (hc : hh c < 0) (h1 : 0 < cr a b) (h2 : 0 < cr b c) : 0 < cr a c := by
  have h := pluck a b c
  rw [cr_neg a c] at h
  have e1 := mpn h1 hc
  have e2 := mpn h2 ha
  exact gpos (by grind) hb
theorem dn_trans_e {a b c : Pt} (ha : hh a < 0) (hb : hh b < 0) (hc : hh c < 0) (h1 : 0 ≤ cr a b) (h2 : 0 ≤ cr b c) : 0 ≤ cr a c := by
  have h := pluck a b c
  rw [cr_neg a c] at h
  have e1 := npn h1 (Int.le_of_lt hc)
  have e2 := npn h2 (Int.le_of_lt ha)
  exact gnon (by grind) hb
theorem dn_trans_s {a b c : Pt} (ha : hh a < 0) (hb : hh b < 0) (hc : hh c < 0) (h1 : 0 < cr a b) (h2 : 0 ≤ cr b c) : 0 < cr a c := by
  have h := pluck a b c
  rw [cr_neg a c] at h
  have e1 := mpn h1 hc
  have e2 := npn h2 (Int.le_of_lt ha)
  exact gpos (by grind) hb
theorem dn_trans_t {a b c : Pt} (ha : hh a < 0) (hb : hh b < 0) (hc : hh c < 0) (h1 : 0 ≤ cr a b) (h2 : 0 < cr b c) : 0 < cr a c := by
  have h := pluck a b c
  rw [cr_neg a c] at h
  have e1 := npn h1 (Int.le_of_lt hc)
  have e2 := mpn h2 ha
  exact gpos (by grind) hb
/-- e up, then a, b down in order: once a lies to the right of e, so does b -/
theorem right_stays {e a b : Pt} (he : 0 < hh e) (ha : hh a < 0) (hb : hh b < 0) (h1 : 0 < cr a b) (h2 : cr e a ≤ 0) : cr e b < 0 := by
  have h := pluck e a b
  rw [cr_neg e b] at h
  have e1 := nnn h2 (Int.le_of_lt hb)
  have e2 := mpp h1 he
  exact gneg (by grind) ha
/-- e down, a, b up in order: if b lies to the left of e, so does a -/
theorem left_was {e a b : Pt} (he : hh e < 0) (ha : 0 < hh a) (hb : 0 < hh b) (h1 : 0 < cr a b) (h2 : 0 ≤ cr e b) : 0 < cr e a := by
  have h := pluck e a b
  rw [cr_neg e b] at h
  have e1 := npp h2 (Int.le_of_lt ha)
  have e2 := mpn h1 he
  exact fpos (by grind) hb

/-! the order by angle -/
def An (a b : Pt) : Prop := (0 < hh a ∧ hh b < 0) ∨ (((0 < hh a ∧ 0 < hh b) ∨ (hh a < 0 ∧ hh b < 0)) ∧ 0 < cr a b)
def Ae (a b : Pt) : Prop := (0 < hh a ∧ hh b < 0) ∨ (((0 < hh a ∧ 0 < hh b) ∨ (hh a < 0 ∧ hh b < 0)) ∧ 0 ≤ cr a b)
theorem An.ae {a b : Pt} (h : An a b) : Ae a b := by
  rcases h with h | ⟨h1, h2⟩
  · exact .inl h
  · exact .inr ⟨h1, by omega⟩
theorem Ae.refl {a : Pt} (h : hh a ≠ 0) : Ae a a := .inr ⟨by omega, by rw [cr_self]; exact Int.le_refl _⟩
theorem An.trans {a b c : Pt} (h1 : An a b) (h2 : An b c) : An a c := by
  unfold An at *
  rcases h1 with ⟨a1, a2⟩ | ⟨⟨a1, a2⟩ | ⟨a1, a2⟩, a3⟩ <;> rcases h2 with ⟨b1, b2⟩ | ⟨⟨b1, b2⟩ | ⟨b1, b2⟩, b3⟩ <;> try omega
  · exact .inr ⟨.inl ⟨a1, b2⟩, up_trans a1 a2 b2 a3 b3⟩
  · exact .inr ⟨.inr ⟨a1, b2⟩, dn_trans a1 a2 b2 a3 b3⟩
theorem Ae.trans {a b c : Pt} (h1 : Ae a b) (h2 : Ae b c) : Ae a c := by
  unfold Ae at *
  rcases h1 with ⟨a1, a2⟩ | ⟨⟨a1, a2⟩ | ⟨a1, a2⟩, a3⟩ <;> rcases h2 with ⟨b1, b2⟩ | ⟨⟨b1, b2⟩ | ⟨b1, b2⟩, b3⟩ <;> try omega
  · exact .inr ⟨.inl ⟨a1, b2⟩, up_trans_e a1 a2 b2 a3 b3⟩
  · exact .inr ⟨.inr ⟨a1, b2⟩, dn_trans_e a1 a2 b2 a3 b3⟩
theorem An.trans_ae {a b c : Pt} (h1 : An a b) (h2 : Ae b c) : An a c := by
  unfold An Ae at *
  rcases h1 with ⟨a1, a2⟩ | ⟨⟨a1, a2⟩ | ⟨a1, a2⟩, a3⟩ <;> rcases h2 with ⟨b1, b2⟩ | ⟨⟨b1, b2⟩ | ⟨b1, b2⟩, b3⟩ <;> try omega
  · exact .inr ⟨.inl ⟨a1, b2⟩, up_trans_s a1 a2 b2 a3 b3⟩
  · exact .inr ⟨.inr ⟨a1, b2⟩, dn_trans_s a1 a2 b2 a3 b3⟩
theorem Ae.trans_an {a b c : Pt} (h1 : Ae a b) (h2 : An b c) : An a c := by
  unfold An Ae at *
  rcases h1 with ⟨a1, a2⟩ | ⟨⟨a1, a2⟩ | ⟨a1, a2⟩, a3⟩ <;> rcases h2 with ⟨b1, b2⟩ | ⟨⟨b1, b2⟩ | ⟨b1, b2⟩, b3⟩ <;> try omega
  · exact .inr ⟨.inl ⟨a1, b2⟩, up_trans_t a1 a2 b2 a3 b3⟩
  · exact .inr ⟨.inr ⟨a1, b2⟩, dn_trans_t a1 a2 b2 a3 b3⟩
theorem An.total {a b : Pt} (ha : hh a ≠ 0) (hb : hh b ≠ 0) : An a b ∨ Ae b a := by
  unfold An Ae
  have := cr_neg a b
  omega
theorem An.not_ae {a b : Pt} (h : An a b) : ¬ Ae b a := by
  unfold An Ae at *
  have := cr_neg a b
  omega

/-! functions that rise or fall -/
theorem rises {G : Nat → Int} {a : Nat} : ∀ b, a ≤ b → (∀ i, a ≤ i → i < b → G i ≤ G (i + 1)) → G a ≤ G b
  | b, hab, h => by
    induction b with
    | zero => have : a = 0 := by omega
              subst this; exact Int.le_refl _
    | succ b ih =>
      rcases Nat.lt_or_eq_of_le hab with h1 | h1
      · have e1 := ih (by omega) (fun i h2 h3 => h i h2 (by omega))
        have e2 := h b (by omega) (by omega)
        omega
      · rw [h1]; exact Int.le_refl _
theorem falls {G : Nat → Int} {a : Nat} (b : Nat) (hab : a ≤ b) (h : ∀ i, a ≤ i → i < b → G (i + 1) ≤ G i) : G b ≤ G a := by
  have := rises (G := fun i => - G i) b hab (fun i h1 h2 => by have := h i h1 h2; omega)
  omega
theorem risesS {G : Nat → Int} {a : Nat} (b : Nat) (hab : a < b) (h : ∀ i, a ≤ i → i < b → G i < G (i + 1)) : G a < G b := by
  have e1 := h a (Nat.le_refl _) hab
  have e2 := rises (G := G) (a := a + 1) b hab (fun i h1 h2 => Int.le_of_lt (h i (by omega) h2))
  omega
theorem fallsS {G : Nat → Int} {a : Nat} (b : Nat) (hab : a < b) (h : ∀ i, a ≤ i → i < b → G (i + 1) < G i) : G b < G a := by
  have := risesS (G := fun i => - G i) b hab (fun i h1 h2 => by have := h i h1 h2; omega)
  omega

end Go.Proofs.Ytoghphikfkdkmaa.V
