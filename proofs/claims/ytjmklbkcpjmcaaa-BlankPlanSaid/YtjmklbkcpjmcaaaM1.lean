/-
  Polygons, plainly: what a shift, a mirroring, a rotation of the list leave as it is.
-/
import Derived.Test.YtjmklbkcpjmcaaaV10
namespace Go.Proofs.Ytjmklbkcpjmcaaa.V
open Go Go.RowKit Go.Proofs.Ytjmklbkcpjmcaaa.H
set_option linter.unusedVariables false
set_option linter.unusedSimpArgs false

theorem dd_map {f : Pt → Pt} (hf : ∀ a b, f a = f b → a = b) : ∀ l : List Pt, dd (l.map f) = (dd l).map f
  | [] => rfl
  | [x] => rfl
  | x :: y :: l => by
    have ih := dd_map hf (y :: l)
    simp only [List.map_cons] at ih ⊢
    unfold dd
    by_cases h : x = y
    · rw [if_pos h, if_pos (by rw [h])]; exact ih
    · rw [if_neg h, if_neg (fun e => h (hf _ _ e)), ih]; rfl

theorem dd_reverse : ∀ l : List Pt, dd l.reverse = (dd l).reverse
  | [] => rfl
  | [x] => rfl
  | x :: y :: l => by
    have ih := dd_reverse (y :: l)
    have e : (x :: y :: l).reverse = l.reverse ++ [y, x] := by simp
    have e2 : (y :: l).reverse = l.reverse ++ [y] := by simp
    rw [e, dd_snoc, ← e2, ih]
    have e3 : dd (x :: y :: l) = if x = y then dd (y :: l) else x :: dd (y :: l) := rfl
    rw [e3]
    by_cases h : x = y
    · rw [if_pos h, if_pos h.symm]
    · rw [if_neg h, if_neg (fun e => h e.symm)]; simp

theorem popR_map {f : Pt → Pt} (hf : ∀ a b c, trn (f a) (f b) (f c) = trn a b c) (v : Pt) : ∀ l : List Pt, popR (f v) (l.map f) = (popR v l).map f
  | [] => rfl
  | [x] => rfl
  | b :: a :: r => by
    have ih := popR_map hf v (a :: r)
    simp only [List.map_cons] at ih ⊢
    unfold popR
    rw [hf]
    by_cases h : trn a b v ≤ 0
    · rw [if_pos h, if_pos h]; exact ih
    · rw [if_neg h, if_neg h]; rfl

theorem chainR_map {f : Pt → Pt} (hf : ∀ a b c, trn (f a) (f b) (f c) = trn a b c) : ∀ (l acc : List Pt), chainR (acc.map f) (l.map f) = (chainR acc l).map f
  | [], acc => rfl
  | v :: l, acc => by
    have ih := chainR_map hf l (v :: popR v acc)
    simp only [List.map_cons] at ih
    rw [List.map_cons, chainR, chainR, popR_map hf, ih]

theorem hullP_map {f : Pt → Pt} (hf : ∀ a b c, trn (f a) (f b) (f c) = trn a b c) (l : List Pt) : hullP (l.map f) = (hullP l).map f := by
  have h1 := chainR_map hf l []
  have h2 := chainR_map hf l.reverse []
  simp only [List.map_nil] at h1 h2
  unfold hullP
  rw [List.length_map]
  split
  · rfl
  · rw [← List.map_reverse, h1, h2, List.map_append, List.map_reverse, List.map_reverse, List.map_tail, List.map_tail]

/-! shifts -/
theorem vAdd_inj (v a b : Pt) (h : vAdd v a = vAdd v b) : a = b := by
  simp only [vAdd, Prod.mk.injEq] at h
  exact Prod.ext (by omega) (by omega)
theorem vNeg_inj (a b : Pt) (h : vNeg a = vNeg b) : a = b := by
  simp only [vNeg, Prod.mk.injEq] at h
  exact Prod.ext (by omega) (by omega)
theorem trn_vAdd (v a b c : Pt) : trn (vAdd v a) (vAdd v b) (vAdd v c) = trn a b c := by
  simp only [trn, turnI, crossI, vAdd]
  have e1 : b.1 + v.1 - (a.1 + v.1) = b.1 - a.1 := by omega
  have e2 : c.2 + v.2 - (a.2 + v.2) = c.2 - a.2 := by omega
  have e3 : b.2 + v.2 - (a.2 + v.2) = b.2 - a.2 := by omega
  have e4 : c.1 + v.1 - (a.1 + v.1) = c.1 - a.1 := by omega
  rw [e1, e2, e3, e4]
theorem trn_vNeg (a b c : Pt) : trn (vNeg a) (vNeg b) (vNeg c) = trn a b c := by
  simp only [trn, turnI, crossI, vNeg]
  have e1 : 0 - b.1 - (0 - a.1) = -(b.1 - a.1) := by omega
  have e2 : 0 - c.2 - (0 - a.2) = -(c.2 - a.2) := by omega
  have e3 : 0 - b.2 - (0 - a.2) = -(b.2 - a.2) := by omega
  have e4 : 0 - c.1 - (0 - a.1) = -(c.1 - a.1) := by omega
  rw [e1, e2, e3, e4, Int.neg_mul_neg, Int.neg_mul_neg]

theorem srt_shift (v : Pt) (ps : List Pt) : srt (ps.map (vAdd v)) = (srt ps).map (vAdd v) := by
  refine (srt_eq ((srt_perm ps).map _) ?_).symm
  have := srt_sorted ps
  unfold SortedL at *
  rw [List.pairwise_map]
  refine this.imp fun h => ?_
  simp only [lt2, vAdd] at h ⊢
  omega

theorem srt_neg (ps : List Pt) : srt (ps.map vNeg) = ((srt ps).map vNeg).reverse := by
  refine (srt_eq ((List.reverse_perm _).trans ((srt_perm ps).map _)) ?_).symm
  have := srt_sorted ps
  unfold SortedL at *
  rw [List.pairwise_reverse, List.pairwise_map]
  refine this.imp fun h => ?_
  simp only [lt2, vNeg] at h ⊢
  omega

theorem hullF_shift (v : Pt) (ps : List Pt) : hullF (ps.map (vAdd v)) = (hullF ps).map (vAdd v) := by
  unfold hullF
  rw [srt_shift, dd_map (vAdd_inj v), hullP_map (trn_vAdd v)]

theorem hullF_perm {ps qs : List Pt} (h : ps.Perm qs) : hullF ps = hullF qs := by
  unfold hullF
  rw [srt_eq ((srt_perm ps).trans h) (srt_sorted ps)]

/-- the mirror image of a polygon: the mirrored list, begun elsewhere -/
theorem hullF_neg (ps : List Pt) (h : 3 ≤ (dd (srt ps)).length) : ∃ A B : List Pt, hullF ps = A ++ B ∧ hullF (ps.map vNeg) = (B ++ A).map vNeg := by
  refine ⟨(chainR [] (dd (srt ps))).tail.reverse, (chainR [] (dd (srt ps)).reverse).tail.reverse, ?_, ?_⟩
  · unfold hullF hullP; rw [if_neg (by omega)]
  · unfold hullF
    rw [srt_neg, dd_reverse, dd_map vNeg_inj, ← List.map_reverse, hullP_map trn_vNeg]
    congr 1
    unfold hullP
    rw [List.length_reverse, if_neg (by omega), List.reverse_reverse]

end Go.Proofs.Ytjmklbkcpjmcaaa.V
