/-
  What the law ConvexMotions claims of polygons.
  Polygons, plainly: moved and mirrored polygons lie to each other as before.
-/
import Derived.Test.YtjmklbkcpjmcaaaV13
import Derived.Test.YtjmklbkcpjmcaaaM1
namespace Go.Proofs.Ytjmklbkcpjmcaaa.V
open Go Go.RowKit Go.Proofs.Ytjmklbkcpjmcaaa.H
set_option linter.unusedVariables false
set_option linter.unusedSimpArgs false

/-- two pairs of polygons with the same areas, points, and ways to lie -/
structure AlikeM (p q a b : List Pt) : Prop where
  a1 : (AreaF p).2 = 0
  a2 : (AreaF a).2 = 0
  b1 : (PointsF p).2.2 = 0
  b2 : (PointsF a).2.2 = 0
  area : (AreaF p).1 = (AreaF a).1
  inn : (PointsF p).1 = (PointsF a).1
  on : (PointsF p).2.1 = (PointsF a).2.1
  o1 : (OverlapF p q).2 = 0
  o2 : (OverlapF a b).2 = 0
  i1 : (InsideF p q).2 = 0
  i2 : (InsideF a b).2 = 0
  oe : (OverlapF a b).1 = (OverlapF p q).1
  ie : (InsideF a b).1 = (InsideF p q).1

end Go.Proofs.Ytjmklbkcpjmcaaa.V

namespace Go.Proofs.Ytjmklbkcpjmcaaa.V
open Go Go.RowKit Go.Proofs.Ytjmklbkcpjmcaaa.H
set_option linter.unusedVariables false
set_option linter.unusedSimpArgs false

/-! the maximum of a direction -/
theorem extAt_max (ps : List Pt) (d : Pt) : ∀ k j, j < k → dotP d (nth ps j) ≤ dotP d (nth ps (extAt ps d k))
  | 0, j, h => absurd h (Nat.not_lt_zero _)
  | k + 1, j, h => by
    have e : extAt ps d (k + 1) = if dotP d (nth ps k) > dotP d (nth ps (extAt ps d k)) then k else extAt ps d k := rfl
    rw [e]
    split
    · next hg =>
      rcases Nat.lt_succ_iff_lt_or_eq.1 h with h1 | rfl
      · have := extAt_max ps d k j h1; omega
      · exact Int.le_refl _
    · next hg =>
      rcases Nat.lt_succ_iff_lt_or_eq.1 h with h1 | rfl
      · exact extAt_max ps d k j h1
      · omega

theorem extF_max {ps : List Pt} {d x : Pt} (hx : x ∈ ps) : dotP d x ≤ (extF ps d).1 := by
  obtain ⟨j, hj, rfl⟩ := List.getElem_of_mem hx
  rw [← nth_get hj]
  exact extAt_max ps d ps.length j hj

theorem extF_mem {ps : List Pt} (d : Pt) (h : 0 < ps.length) : ∃ x ∈ ps, (extF ps d).1 = dotP d x := by
  have hel := extAt_lt ps d ps.length
  exact ⟨_, nth_mem (by omega), rfl⟩

theorem extF_map {ps qs : List Pt} {d e : Pt} {c : Int} {f : Pt → Pt} (h : 0 < ps.length) (hq : ∀ x, x ∈ qs ↔ ∃ y ∈ ps, f y = x) (hd : ∀ y ∈ ps, dotP e (f y) = dotP d y + c) : (extF qs e).1 = (extF ps d).1 + c := by
  obtain ⟨x, hx, ex⟩ := extF_mem d h
  have h0 : 0 < qs.length := List.length_pos_of_mem ((hq _).2 ⟨x, hx, rfl⟩)
  obtain ⟨y, hy, ey⟩ := extF_mem (ps := qs) e h0
  obtain ⟨z, hz, rfl⟩ := (hq y).1 hy
  have h1 := extF_max (d := e) ((hq _).2 ⟨x, hx, rfl⟩)
  have h2 := extF_max (d := d) hz
  rw [hd x hx] at h1
  rw [hd z hz] at ey
  omega

theorem dot_vAdd (d v x : Pt) : dotP d (vAdd v x) = dotP d x + dotP d v := by
  simp only [dotP, dotI, vAdd, Int.mul_add]; omega
theorem dot_negL (d x : Pt) : dotP (vNeg d) x = - dotP d x := by
  simp only [dotP, dotI, vNeg, Int.zero_sub, Int.neg_mul]; omega
theorem dot_negR (d x : Pt) : dotP d (vNeg x) = - dotP d x := by
  simp only [dotP, dotI, vNeg, Int.zero_sub, Int.mul_neg]; omega

theorem sepB_shift {p q : List Pt} (v d : Pt) (hp : 0 < p.length) (hq : 0 < q.length) : sepB (p.map (vAdd v)) (q.map (vAdd v)) d = sepB p q d := by
  unfold sepB
  rw [extF_map (c := dotP d v) (f := vAdd v) (d := d) hp (by simp) (fun y _ => dot_vAdd d v y), extF_map (c := dotP (vNeg d) v) (f := vAdd v) (d := vNeg d) hq (by simp) (fun y _ => dot_vAdd _ v y), dot_negL]
  congr 1
  apply propext
  omega

theorem parted_iff (p q : List Pt) : (partedF p q).2 = true ↔ (∃ k, k < p.length ∧ sepB p q (dirP p k) = true) ∨ ∃ k, k < q.length ∧ sepB p q (dirQ q k) = true := by
  have key : ∀ (f : Nat → Pt) (s : Pt → Bool) (n : Nat), (firstD f s n).isSome = true ↔ ∃ k, k < n ∧ s (f k) = true := fun f s n => by
    unfold firstD
    rw [List.find?_isSome]
    constructor
    · rintro ⟨x, hx, hs⟩
      obtain ⟨j, hj, rfl⟩ := List.mem_map.1 hx
      exact ⟨j, List.mem_range.1 hj, hs⟩
    · rintro ⟨k, hk, hs⟩
      exact ⟨f k, List.mem_map.2 ⟨k, List.mem_range.2 hk, rfl⟩, hs⟩
  rw [← key, ← key]
  unfold partedF
  cases h1 : firstD (dirP p) (sepB p q) p.length with
  | some d => simp
  | none =>
    cases h2 : firstD (dirQ q) (sepB p q) q.length with
    | some d => simp
    | none => simp

theorem dirP_shift (v : Pt) {p : List Pt} {k : Nat} (h : k < p.length) : dirP (p.map (vAdd v)) k = dirP p k := by
  unfold dirP
  rw [nth_map _ h, nx_map _ h]
  simp only [vAdd]
  exact Prod.ext (by simp only; omega) (by simp only; omega)
theorem dirQ_shift (v : Pt) {p : List Pt} {k : Nat} (h : k < p.length) : dirQ (p.map (vAdd v)) k = dirQ p k := by
  unfold dirQ
  rw [nth_map _ h, nx_map _ h]
  simp only [vAdd]
  exact Prod.ext (by simp only; omega) (by simp only; omega)

theorem bool_eq_of_iff {a b : Bool} (h : a = true ↔ b = true) : a = b := by
  cases a <;> cases b <;> simp_all

theorem parted_shift {p q : List Pt} (v : Pt) (hp : 0 < p.length) (hq : 0 < q.length) : (partedF (p.map (vAdd v)) (q.map (vAdd v))).2 = (partedF p q).2 := by
  apply bool_eq_of_iff
  rw [parted_iff, parted_iff, List.length_map, List.length_map]
  refine or_congr ⟨fun ⟨k, h1, h2⟩ => ⟨k, h1, ?_⟩, fun ⟨k, h1, h2⟩ => ⟨k, h1, ?_⟩⟩ ⟨fun ⟨k, h1, h2⟩ => ⟨k, h1, ?_⟩, fun ⟨k, h1, h2⟩ => ⟨k, h1, ?_⟩⟩
  · rw [dirP_shift v h1, sepB_shift v _ hp hq] at h2; exact h2
  · rw [dirP_shift v h1, sepB_shift v _ hp hq]; exact h2
  · rw [dirQ_shift v h1, sepB_shift v _ hp hq] at h2; exact h2
  · rw [dirQ_shift v h1, sepB_shift v _ hp hq]; exact h2

theorem placeF_congr {p q : List Pt} {x y : Pt} (h1 : (∃ k, k < p.length ∧ side p x k < 0) ↔ ∃ k, k < q.length ∧ side q y k < 0) (h2 : (∃ k, k < p.length ∧ side p x k = 0) ↔ ∃ k, k < q.length ∧ side q y k = 0) : placeF p x = placeF q y := by
  unfold placeF
  simp only [h1, h2]

theorem side_shift (v x : Pt) {p : List Pt} {k : Nat} (h : k < p.length) : side (p.map (vAdd v)) (vAdd v x) k = side p x k := by
  unfold side
  rw [nth_map _ h, nx_map _ h, trn_vAdd]

theorem placeF_shift (v x : Pt) (p : List Pt) : placeF (p.map (vAdd v)) (vAdd v x) = placeF p x := by
  apply placeF_congr
  · rw [List.length_map]
    exact ⟨fun ⟨k, h1, h2⟩ => ⟨k, h1, by rw [side_shift v x h1] at h2; exact h2⟩, fun ⟨k, h1, h2⟩ => ⟨k, h1, by rw [side_shift v x h1]; exact h2⟩⟩
  · rw [List.length_map]
    exact ⟨fun ⟨k, h1, h2⟩ => ⟨k, h1, by rw [side_shift v x h1] at h2; exact h2⟩, fun ⟨k, h1, h2⟩ => ⟨k, h1, by rw [side_shift v x h1]; exact h2⟩⟩

/-! moved polygons -/
theorem madeE_spec {ps : List Pt} (h : madeE ps = 0) : ps.any (fun q => !okB q.1 q.2) = false ∧ ps.length ≤ 32 := by
  unfold madeE at h
  split at h
  · omega
  · next h1 =>
    split at h
    · omega
    · exact ⟨by simpa using h1, by omega⟩

theorem validF_of {ps : List Pt} (h1 : 3 ≤ ps.length) (h2 : ps.length ≤ 32) (h3 : ps.any (fun q => !okB q.1 q.2) = false) (h4 : hullF ps = ps) : validF ps = true := by
  unfold validF
  rw [h3, decide_eq_false (by omega), decide_eq_false (by omega), decide_eq_true h4]
  rfl

theorem move_spec {p : List Pt} {v : Pt} (h : (MoveF p v).2 = 0) : validF p = true ∧ (MoveF p v).1 = p.map (vAdd v) ∧ validF (p.map (vAdd v)) = true := by
  unfold MoveF at h ⊢
  split at h
  · next hv =>
    simp only [Bool.and_eq_true] at hv
    obtain ⟨v1, v2, v3, v4⟩ := validF_spec hv.1
    simp only at h
    have hh : hullF (p.map (vAdd v)) = p.map (vAdd v) := by rw [hullF_shift, v4]
    rw [hh] at h
    have hs := madeE_spec h
    rw [if_pos (by simp [hv]), hh]
    refine ⟨hv.1, by rw [madeL, if_pos h], validF_of (by simpa using v1) hs.2 hs.1 hh⟩
  · simp at h

theorem alike_move (p q : List Pt) (v : Pt) (hp : (MoveF p v).2 = 0) (hq : (MoveF q v).2 = 0) : AlikeM p q (MoveF p v).1 (MoveF q v).1 := by
  obtain ⟨p1, p2, p3⟩ := move_spec hp
  obtain ⟨q1, q2, q3⟩ := move_spec hq
  rw [p2, q2]
  have lp := (validF_spec p1).1
  have lq := (validF_spec q1).1
  have hov : (validF p && validF q) = true := by rw [p1, q1]; rfl
  have hov2 : (validF (p.map (vAdd v)) && validF (q.map (vAdd v))) = true := by rw [p3, q3]; rfl
  refine ⟨by rw [AreaF, if_pos p1], by rw [AreaF, if_pos p3], by rw [PointsF, if_pos p1], by rw [PointsF, if_pos p3], ?_, ?_, ?_, by rw [OverlapF, if_pos hov], by rw [OverlapF, if_pos hov2], by rw [InsideF, if_pos hov], by rw [InsideF, if_pos hov2], ?_, ?_⟩
  · rw [AreaF, AreaF, if_pos p1, if_pos p3]; exact (areaC_shift v p).symm
  · rw [PointsF, PointsF, if_pos p1, if_pos p3, areaC_shift, onC_shift]
  · rw [PointsF, PointsF, if_pos p1, if_pos p3]; exact (onC_shift v p).symm
  · rw [OverlapF, OverlapF, if_pos hov, if_pos hov2]
    simp only
    rw [parted_shift v (by omega) (by omega)]
  · rw [InsideF, InsideF, if_pos hov, if_pos hov2]
    simp only [List.any_map]
    congr 2
    funext x
    simp only [Function.comp, placeF_shift]

end Go.Proofs.Ytjmklbkcpjmcaaa.V
