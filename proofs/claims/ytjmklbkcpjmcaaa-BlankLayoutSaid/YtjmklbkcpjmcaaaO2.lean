/-
  Plain laws of overlaps: a polygon overlaps itself; two translations of a blank.
-/
import Derived.Test.YtjmklbkcpjmcaaaO1
namespace Go.Proofs.Ytjmklbkcpjmcaaa.V
open Go Go.RowKit Go.Proofs.Ytjmklbkcpjmcaaa.H Go.Proofs.Ytjmklbkcpjmcaaa.LL
set_option linter.unusedVariables false
set_option linter.unusedSimpArgs false

theorem cr_three {e a b : Pt} (he : hh e ≠ 0) (h1 : cr e a = 0) (h2 : cr e b = 0) : cr a b = 0 := by
  have h := pluck a b e
  have h3 : cr b e = 0 := by have : cr b e = - cr e b := by unfold cr; grind
                             omega
  rw [h1, h3, Int.zero_mul, Int.zero_mul] at h
  have h4 : cr a b * hh e = 0 := by omega
  rcases Int.mul_eq_zero.1 h4 with h5 | h5
  · exact h5
  · exact absurd h5 he

theorem flat_no {p : List Pt} (hp : Sr p) {e : Pt} (he : hh e ≠ 0) (h : ∀ x ∈ p, ∀ y ∈ p, cr e x ≤ cr e y) : False := by
  have hE : ∀ k, k < p.length → cr e (E p k) = 0 := fun k hk => by
    have m1 : nx p k ∈ p := nx_mem hk
    have m2 : nth p k ∈ p := nth_mem hk
    have h1 := h _ m1 _ m2
    have h2 := h _ m2 _ m1
    rw [E_eq hk]
    have : cr e (sb (nx p k) (nth p k)) = cr e (nx p k) - cr e (nth p k) := by unfold cr sb; grind
    omega
  have key : ∀ i j, i < j → j < p.length → ¬ (0 < cr (E p i) (E p j)) := fun i j hij hj => by
    rw [cr_three he (hE i (by omega)) (hE j hj)]
    omega
  have h3 := hp.len
  have a01 := hp.srt 0 1 (by omega) (by omega)
  have a12 := hp.srt 1 2 (by omega) (by omega)
  rcases a01 with ⟨_, h1⟩ | ⟨_, h1⟩
  · rcases a12 with ⟨h2, _⟩ | ⟨_, h2⟩
    · omega
    · exact key 1 2 (by omega) (by omega) h2
  · exact key 0 1 (by omega) (by omega) h1

theorem self_over {p : List Pt} (hv : validF p = true) : (partedF p p).2 = false := by
  have hp := valid_sr hv
  have h3 := hp.len
  rcases Bool.eq_false_or_eq_true (partedF p p).2 with h | h
  · exfalso
    rcases (parted_sep (by omega) (by omega)).1 h with ⟨k, hk, hs⟩ | ⟨k, hk, hs⟩
    · exact flat_no hp (hp.ne k hk) fun x hx y hy => hs y hy x hx
    · exact flat_no hp (e := vNeg (E p k)) (by rw [hh_vNeg]; have := hp.ne k hk; omega) fun x hx y hy => hs y hy x hx
  · exact h

theorem vAdd_zero (p : List Pt) : p.map (vAdd (0, 0)) = p := by
  have : ∀ q : Pt, vAdd (0, 0) q = q := fun q => by
    show (q.1 + 0, q.2 + 0) = q
    rw [Int.add_zero, Int.add_zero]
  conv => rhs; rw [← List.map_id p]
  exact List.map_congr_left fun q _ => this q

/-- two translations overlap exactly if the one by their difference overlaps the blank -/
theorem pair_over {p : List Pt} (hb : blankF p = true) {a b : Pt} (ha : Bd2 900 a.1 a.2) (hb2 : Bd2 900 b.1 b.2) :
    OverlapF (p.map (vAdd a)) (p.map (vAdd b)) = (collB p (b.1 - a.1, b.2 - a.2) || decide ((b.1 - a.1, b.2 - a.2) = ((0, 0) : Pt)), 0) := by
  obtain ⟨_, va⟩ := move_blank hb ha
  obtain ⟨_, vb⟩ := move_blank hb hb2
  have hv := (blankF_spec hb).1
  have h3 := (validF_spec hv).1
  rw [OverlapF, if_pos (by rw [va, vb]; rfl)]
  congr 1
  cases hi : inB (b.1 - a.1, b.2 - a.2) with
  | true =>
    have hd := inB_bd hi
    have e : p.map (vAdd b) = (p.map (vAdd (b.1 - a.1, b.2 - a.2))).map (vAdd a) := by
      rw [List.map_map]
      refine List.map_congr_left fun q _ => ?_
      show (q.1 + b.1, q.2 + b.2) = (q.1 + (b.1 - a.1) + a.1, q.2 + (b.2 - a.2) + a.2)
      rw [Prod.mk.injEq]; omega
    rw [e, parted_shift a (by omega) (by simp; omega), coll_eq hb hd]
    by_cases h0 : (b.1 - a.1, b.2 - a.2) = ((0, 0) : Pt)
    · rw [h0, vAdd_zero, self_over hv]; rfl
    · rw [decide_eq_false h0, Bool.or_false]
  | false =>
    have hn := of_decide_eq_false hi
    have h0 : (b.1 - a.1, b.2 - a.2) ≠ ((0, 0) : Pt) := fun h => by
      simp only [Prod.mk.injEq] at h
      simp only at hn
      omega
    rw [collB, hi, decide_eq_false h0]
    have key : ∀ e : Pt, hh e ≠ 0 → (∀ x y : Pt, (0 ≤ x.1 ∧ x.1 ≤ 12 ∧ 0 ≤ x.2 ∧ x.2 ≤ 12) → (0 ≤ y.1 ∧ y.1 ≤ 12 ∧ 0 ≤ y.2 ∧ y.2 ≤ 12) → 0 ≤ cr e (sb (vAdd a x) (vAdd b y))) → (partedF (p.map (vAdd a)) (p.map (vAdd b))).2 = true := fun e h1 h2 => by
      refine parted_side va vb h1 fun x hx y hy => ?_
      obtain ⟨x', hx', rfl⟩ := List.mem_map.1 hx
      obtain ⟨y', hy', rfl⟩ := List.mem_map.1 hy
      exact h2 x' y' (blank_bd hb hx') (blank_bd hb hy')
    simp only at hn
    have ht : (partedF (p.map (vAdd a)) (p.map (vAdd b))).2 = true := by
      have hc : b.1 - a.1 ≤ -12 ∨ 12 ≤ b.1 - a.1 ∨ b.2 - a.2 ≤ -12 ∨ 12 ≤ b.2 - a.2 := by omega
      rcases hc with h | h | h | h
      · refine key (0, -1) (by decide) fun x y hx hy => ?_
        simp only [cr, sb, vAdd]; omega
      · refine key (0, 1) (by decide) fun x y hx hy => ?_
        simp only [cr, sb, vAdd]; omega
      · refine key (1, 0) (by decide) fun x y hx hy => ?_
        simp only [cr, sb, vAdd]; omega
      · refine key (-1, 0) (by decide) fun x y hx hy => ?_
        simp only [cr, sb, vAdd]; omega
    rw [ht]
    rfl

end Go.Proofs.Ytjmklbkcpjmcaaa.V
