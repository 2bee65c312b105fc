/-
  Plain laws of overlaps: a blank and its translations.
-/
import Derived.Test.YtjmklbkcpjmcaaaW1
import Derived.Test.YtjmklbkcpjmcaaaB4
namespace Go.Proofs.Ytjmklbkcpjmcaaa.V
open Go Go.RowKit Go.Proofs.Ytjmklbkcpjmcaaa.H Go.Proofs.Ytjmklbkcpjmcaaa.LL
set_option linter.unusedVariables false
set_option linter.unusedSimpArgs false

theorem blank_bd {p : List Pt} (hb : blankF p = true) {q : Pt} (hq : q ∈ p) : 0 ≤ q.1 ∧ q.1 ≤ 12 ∧ 0 ≤ q.2 ∧ q.2 ≤ 12 := by
  have := List.any_eq_false.1 (blankF_spec hb).2 q hq
  simp only [offB, decide_eq_true_eq] at this
  omega

/-- if all differences lie on one side, the two polygons are parted -/
theorem parted_side {p q : List Pt} (hp : validF p = true) (hq : validF q = true) {e : Pt} (he : hh e ≠ 0) (h : ∀ a ∈ p, ∀ b ∈ q, 0 ≤ cr e (sb a b)) : (partedF p q).2 = true := by
  obtain ⟨hm, vo⟩ := flip_spec hq
  have sp := valid_sr hp
  have so := valid_sr vo
  have hS := sum_spec sp so
  rw [parted_zero sp (valid_sr hq) so hm hS]
  intro hI
  obtain ⟨v, hv, -, -, h3⟩ := hS.sr.corner he
  have h4 := h3 _ hI
  obtain ⟨a, b, ha, hb, rfl⟩ := hS.mem sp so hv
  obtain ⟨c, hc, rfl⟩ := (hm.mem b).1 hb
  have h5 := h a ha c hc
  have e1 : cr e (ad a (vNeg c)) = cr e (sb a c) := by unfold cr ad vNeg sb; grind
  have e2 : cr e (0, 0) = 0 := by unfold cr; grind
  omega

theorem edge_parted {p : List Pt} (hb : blankF p = true) {v : Pt} (hv : Bd2 900 v.1 v.2) (he : v.1 ≤ -12 ∨ 12 ≤ v.1 ∨ v.2 ≤ -12 ∨ 12 ≤ v.2) : (partedF p (p.map (vAdd v))).2 = true := by
  obtain ⟨_, hq⟩ := move_blank hb hv
  have hp := (blankF_spec hb).1
  have key : ∀ e : Pt, hh e ≠ 0 → (∀ x y : Pt, (0 ≤ x.1 ∧ x.1 ≤ 12 ∧ 0 ≤ x.2 ∧ x.2 ≤ 12) → (0 ≤ y.1 ∧ y.1 ≤ 12 ∧ 0 ≤ y.2 ∧ y.2 ≤ 12) → 0 ≤ cr e (sb x (vAdd v y))) → (partedF p (p.map (vAdd v))).2 = true := fun e h1 h2 => by
    refine parted_side hp hq h1 fun a ha b hbb => ?_
    obtain ⟨c, hc, rfl⟩ := List.mem_map.1 hbb
    exact h2 a c (blank_bd hb ha) (blank_bd hb hc)
  rcases he with h | h | h | h
  · refine key (0, -1) (by decide) fun x y hx hy => ?_
    simp only [cr, sb, vAdd]; omega
  · refine key (0, 1) (by decide) fun x y hx hy => ?_
    simp only [cr, sb, vAdd]; omega
  · refine key (1, 0) (by decide) fun x y hx hy => ?_
    simp only [cr, sb, vAdd]; omega
  · refine key (-1, 0) (by decide) fun x y hx hy => ?_
    simp only [cr, sb, vAdd]; omega

theorem over_move {p : List Pt} (hb : blankF p = true) {v : Pt} (hv : Bd2 900 v.1 v.2) : OverlapF p (p.map (vAdd v)) = (!(partedF p (p.map (vAdd v))).2, 0) := by
  obtain ⟨_, hq⟩ := move_blank hb hv
  rw [OverlapF, if_pos (by rw [(blankF_spec hb).1, hq]; rfl)]

/-- what Collide of the reference answers -/
def inB (v : Pt) : Bool := decide (-12 < v.1 ∧ v.1 < 12 ∧ -12 < v.2 ∧ v.2 < 12)
def collB (p : List Pt) (v : Pt) : Bool := inB v && !(partedF p (p.map (vAdd v))).2

theorem inB_bd {v : Pt} (h : inB v = true) : Bd2 900 v.1 v.2 := by
  have := of_decide_eq_true h
  exact ⟨⟨by omega, by omega⟩, ⟨by omega, by omega⟩⟩

theorem coll_eq {p : List Pt} (hb : blankF p = true) {v : Pt} (hv : Bd2 900 v.1 v.2) : collB p v = !(partedF p (p.map (vAdd v))).2 := by
  unfold collB
  cases hi : inB v with
  | true => rfl
  | false =>
    have := of_decide_eq_false hi
    rw [edge_parted hb hv (by omega)]
    rfl

theorem hit_coll {p : List Pt} (hb : blankF p = true) {v : Pt} (hv : Bd2 900 v.1 v.2) : hitB p v = (decide (v ≠ (0, 0)) && collB p v) := by
  rw [hitB_eq hb hv, coll_eq hb hv, Bool.and_comm]

end Go.Proofs.Ytjmklbkcpjmcaaa.V
