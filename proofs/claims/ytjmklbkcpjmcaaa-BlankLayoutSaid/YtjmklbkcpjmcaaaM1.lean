/-
  Polygons, plainly: what a shift, a mirroring, a rotation of the list leave as it is.
  Polygons, plainly: sums and counts around a polygon; where the list begins does not matter.
-/
import Derived.Test.YtjmklbkcpjmcaaaV10
namespace Go.Proofs.Ytjmklbkcpjmcaaa.V
open Go Go.RowKit Go.Proofs.Ytjmklbkcpjmcaaa.H
set_option linter.unusedVariables false
set_option linter.unusedSimpArgs false

theorem dd_map {f : Pt → Pt} (hf : ∀ a b, f a = f b → a = b) : ∀ l : List Pt, dd (l.map f) = (dd l).map f
  | [] => rfl
  | [x] => rfl
  | x :: y :: l => by
    have ih := dd_map hf (y :: l)
    simp only [List.map_cons] at ih ⊢
    unfold dd
    by_cases h : x = y
    · rw [if_pos h, if_pos (by rw [h])]; exact ih
    · rw [if_neg h, if_neg (fun e => h (hf _ _ e)), ih]; rfl

theorem dd_reverse : ∀ l : List Pt, dd l.reverse = (dd l).reverse
  | [] => rfl
  | [x] => rfl
  | x :: y :: l => by
    have ih := dd_reverse (y :: l)
    have e : (x :: y :: l).reverse = l.reverse ++ [y, x] := by simp
    have e2 : (y :: l).reverse = l.reverse ++ [y] := by simp
    rw [e, dd_snoc, ← e2, ih]
    have e3 : dd (x :: y :: l) = if x = y then dd (y :: l) else x :: dd (y :: l) := rfl
    rw [e3]
    by_cases h : x = y
    · rw [if_pos h, if_pos h.symm]
    · rw [if_neg h, if_neg (fun e => h e.symm)]; simp

theorem popR_map {f : Pt → Pt} (hf : ∀ a b c, trn (f a) (f b) (f c) = trn a b c) (v : Pt) : ∀ l : List Pt, popR (f v) (l.map f) = (popR v l).map f
  | [] => rfl
  | [x] => rfl
  | b :: a :: r => by
    have ih := popR_map hf v (a :: r)
    simp only [List.map_cons] at ih ⊢
    unfold popR
    rw [hf]
    by_cases h : trn a b v ≤ 0
    · rw [if_pos h, if_pos h]; exact ih
    · rw [if_neg h, if_neg h]; rfl

theorem chainR_map {f : Pt → Pt} (hf : ∀ a b c, trn (f a) (f b) (f c) = trn a b c) : ∀ (l acc : List Pt), chainR (acc.map f) (l.map f) = (chainR acc l).map f
  | [], acc => rfl
  | v :: l, acc => by
    have ih := chainR_map hf l (v :: popR v acc)
    simp only [List.map_cons] at ih
    rw [List.map_cons, chainR, chainR, popR_map hf, ih]

theorem hullP_map {f : Pt → Pt} (hf : ∀ a b c, trn (f a) (f b) (f c) = trn a b c) (l : List Pt) : hullP (l.map f) = (hullP l).map f := by
  have h1 := chainR_map hf l []
  have h2 := chainR_map hf l.reverse []
  simp only [List.map_nil] at h1 h2
  unfold hullP
  rw [List.length_map]
  split
  · rfl
  · rw [← List.map_reverse, h1, h2, List.map_append, List.map_reverse, List.map_reverse, List.map_tail, List.map_tail]

/-! shifts -/
theorem vAdd_inj (v a b : Pt) (h : vAdd v a = vAdd v b) : a = b := by
  simp only [vAdd, Prod.mk.injEq] at h
  exact Prod.ext (by omega) (by omega)
theorem vNeg_inj (a b : Pt) (h : vNeg a = vNeg b) : a = b := by
  simp only [vNeg, Prod.mk.injEq] at h
  exact Prod.ext (by omega) (by omega)
theorem trn_vAdd (v a b c : Pt) : trn (vAdd v a) (vAdd v b) (vAdd v c) = trn a b c := by
  simp only [trn, turnI, crossI, vAdd]
  have e1 : b.1 + v.1 - (a.1 + v.1) = b.1 - a.1 := by omega
  have e2 : c.2 + v.2 - (a.2 + v.2) = c.2 - a.2 := by omega
  have e3 : b.2 + v.2 - (a.2 + v.2) = b.2 - a.2 := by omega
  have e4 : c.1 + v.1 - (a.1 + v.1) = c.1 - a.1 := by omega
  rw [e1, e2, e3, e4]
theorem trn_vNeg (a b c : Pt) : trn (vNeg a) (vNeg b) (vNeg c) = trn a b c := by
  simp only [trn, turnI, crossI, vNeg]
  have e1 : 0 - b.1 - (0 - a.1) = -(b.1 - a.1) := by omega
  have e2 : 0 - c.2 - (0 - a.2) = -(c.2 - a.2) := by omega
  have e3 : 0 - b.2 - (0 - a.2) = -(b.2 - a.2) := by omega
  have e4 : 0 - c.1 - (0 - a.1) = -(c.1 - a.1) := by omega
  rw [e1, e2, e3, e4, Int.neg_mul_neg, Int.neg_mul_neg]

theorem srt_shift (v : Pt) (ps : List Pt) : srt (ps.map (vAdd v)) = (srt ps).map (vAdd v) := by
  refine (srt_eq ((srt_perm ps).map _) ?_).symm
  have := srt_sorted ps
  unfold SortedL at *
  rw [List.pairwise_map]
  refine this.imp fun h => ?_
  simp only [lt2, vAdd] at h ⊢
  omega

theorem srt_neg (ps : List Pt) : srt (ps.map vNeg) = ((srt ps).map vNeg).reverse := by
  refine (srt_eq ((List.reverse_perm _).trans ((srt_perm ps).map _)) ?_).symm
  have := srt_sorted ps
  unfold SortedL at *
  rw [List.pairwise_reverse, List.pairwise_map]
  refine this.imp fun h => ?_
  simp only [lt2, vNeg] at h ⊢
  omega

theorem hullF_shift (v : Pt) (ps : List Pt) : hullF (ps.map (vAdd v)) = (hullF ps).map (vAdd v) := by
  unfold hullF
  rw [srt_shift, dd_map (vAdd_inj v), hullP_map (trn_vAdd v)]

theorem hullF_perm {ps qs : List Pt} (h : ps.Perm qs) : hullF ps = hullF qs := by
  unfold hullF
  rw [srt_eq ((srt_perm ps).trans h) (srt_sorted ps)]

/-- the mirror image of a polygon: the mirrored list, begun elsewhere -/
theorem hullF_neg (ps : List Pt) (h : 3 ≤ (dd (srt ps)).length) : ∃ A B : List Pt, hullF ps = A ++ B ∧ hullF (ps.map vNeg) = (B ++ A).map vNeg := by
  refine ⟨(chainR [] (dd (srt ps))).tail.reverse, (chainR [] (dd (srt ps)).reverse).tail.reverse, ?_, ?_⟩
  · unfold hullF hullP; rw [if_neg (by omega)]
  · unfold hullF
    rw [srt_neg, dd_reverse, dd_map vNeg_inj, ← List.map_reverse, hullP_map trn_vNeg]
    congr 1
    unfold hullP
    rw [List.length_reverse, if_neg (by omega), List.reverse_reverse]

end Go.Proofs.Ytjmklbkcpjmcaaa.V

namespace Go.Proofs.Ytjmklbkcpjmcaaa.V
open Go Go.RowKit Go.Proofs.Ytjmklbkcpjmcaaa.H
set_option linter.unusedVariables false
set_option linter.unusedSimpArgs false

theorem sumN_congr {f g : Nat → Int} : ∀ n, (∀ k, k < n → f k = g k) → sumN f n = sumN g n
  | 0, _ => rfl
  | n + 1, h => by
    rw [sumN, sumN, sumN_congr n (fun k hk => h k (by omega)), h n (by omega)]

theorem sumN_plus (f g : Nat → Int) : ∀ n, sumN (fun k => f k + g k) n = sumN f n + sumN g n
  | 0 => rfl
  | n + 1 => by simp only [sumN, sumN_plus f g n]; omega

theorem sumN_minus (f g : Nat → Int) : ∀ n, sumN (fun k => f k - g k) n = sumN f n - sumN g n
  | 0 => rfl
  | n + 1 => by simp only [sumN, sumN_minus f g n]; omega

theorem sumN_split (f : Nat → Int) (a : Nat) : ∀ b, sumN f (a + b) = sumN f a + sumN (fun k => f (a + k)) b
  | 0 => by simp [sumN]
  | b + 1 => by
    rw [← Nat.add_assoc, sumN, sumN, sumN_split f a b]; omega

theorem sumN_rot (g : Nat → Int) (n m : Nat) (hm : m ≤ n) : sumN (fun k => g ((k + m) % n)) n = sumN g n := by
  obtain ⟨r, rfl⟩ : ∃ r, n = r + m := ⟨n - m, by omega⟩
  rw [sumN_split _ r m]
  have e1 : sumN (fun k => g ((k + m) % (r + m))) r = sumN (fun k => g (m + k)) r := sumN_congr r fun k hk => by
    rw [Nat.mod_eq_of_lt (by omega), Nat.add_comm]
  have e2 : sumN (fun k => g ((r + k + m) % (r + m))) m = sumN g m := sumN_congr m fun k hk => by
    have : r + k + m = k + (r + m) := by omega
    rw [this, Nat.add_mod_right, Nat.mod_eq_of_lt (by omega)]
  rw [e1, e2, Nat.add_comm r m, sumN_split g m r]
  omega

theorem nth_map (f : Pt → Pt) {ps : List Pt} {k : Nat} (h : k < ps.length) : nth (ps.map f) k = f (nth ps k) := by
  rw [nth_get h, nth_get (by simpa using h)]; simp
theorem nx_map (f : Pt → Pt) {ps : List Pt} {k : Nat} (h : k < ps.length) : nx (ps.map f) k = f (nx ps k) := by
  unfold nx
  rw [List.length_map]
  exact nth_map f (Nat.mod_lt _ (by omega))

theorem nth_rot {A B : List Pt} {k : Nat} (h : k < A.length + B.length) : nth (B ++ A) k = nth (A ++ B) ((k + A.length) % (A.length + B.length)) := by
  have h1 : k < (B ++ A).length := by simp; omega
  have h2 : (k + A.length) % (A.length + B.length) < (A ++ B).length := by rw [List.length_append]; exact Nat.mod_lt _ (by omega)
  rw [nth_get h1, nth_get h2]
  by_cases hk : k < B.length
  · have e : (k + A.length) % (A.length + B.length) = k + A.length := Nat.mod_eq_of_lt (by omega)
    rw [List.getElem_append_left hk, List.getElem_append_right (by omega)]
    congr 1
    omega
  · have e : (k + A.length) % (A.length + B.length) = k - B.length := by
      have : k + A.length = (k - B.length) + (A.length + B.length) := by omega
      rw [this, Nat.add_mod_right, Nat.mod_eq_of_lt (by omega)]
    rw [List.getElem_append_right (by omega), List.getElem_append_left (by omega)]
    congr 1
    omega

theorem nx_rot {A B : List Pt} {k : Nat} (h : k < A.length + B.length) : nx (B ++ A) k = nx (A ++ B) ((k + A.length) % (A.length + B.length)) := by
  unfold nx
  have e1 : (B ++ A).length = A.length + B.length := by simp; omega
  have e2 : (A ++ B).length = A.length + B.length := by simp
  rw [e1, e2, nth_rot (Nat.mod_lt _ (by omega))]
  congr 1
  rw [Nat.mod_add_mod, Nat.mod_add_mod]
  congr 1
  omega

/-- sums around a polygon -/
def cyc (F : Pt → Pt → Int) (ps : List Pt) : Int := sumN (fun k => F (nth ps k) (nx ps k)) ps.length

theorem cyc_rot (F : Pt → Pt → Int) (A B : List Pt) : cyc F (B ++ A) = cyc F (A ++ B) := by
  unfold cyc
  have e1 : (B ++ A).length = A.length + B.length := by simp; omega
  have e2 : (A ++ B).length = A.length + B.length := by simp
  rw [e1, e2, ← sumN_rot (fun k => F (nth (A ++ B) k) (nx (A ++ B) k)) (A.length + B.length) A.length (by omega)]
  exact sumN_congr _ fun k hk => by rw [nth_rot hk, nx_rot hk]

theorem cyc_map (F : Pt → Pt → Int) (f : Pt → Pt) (ps : List Pt) : cyc F (ps.map f) = cyc (fun a b => F (f a) (f b)) ps := by
  unfold cyc
  rw [List.length_map]
  exact sumN_congr _ fun k hk => by rw [nth_map f hk, nx_map f hk]

/-- a sum of differences around a polygon is nothing -/
theorem cyc_diff (h : Pt → Int) (ps : List Pt) : cyc (fun a b => h b - h a) ps = 0 := by
  unfold cyc
  rw [sumN_minus (fun k => h (nx ps k)) (fun k => h (nth ps k))]
  rcases Nat.eq_zero_or_pos ps.length with h0 | h0
  · rw [h0]; rfl
  · have := sumN_rot (fun k => h (nth ps k)) ps.length 1 h0
    have e : sumN (fun k => h (nx ps k)) ps.length = sumN (fun k => h (nth ps ((k + 1) % ps.length))) ps.length := rfl
    rw [e, this]; omega

theorem areaC_cyc (ps : List Pt) : areaC ps = cyc crossP ps := rfl
theorem onC_cyc (ps : List Pt) : onC ps = cyc (fun a b => (gcdE a b : Int)) ps := rfl

theorem areaC_shift (v : Pt) (ps : List Pt) : areaC (ps.map (vAdd v)) = areaC ps := by
  rw [areaC_cyc, areaC_cyc, cyc_map]
  have e : ∀ a b, crossP (vAdd v a) (vAdd v b) = crossP a b + ((v.1 * b.2 - v.2 * b.1) - (v.1 * a.2 - v.2 * a.1)) := fun a b => by
    simp only [crossP, crossI, vAdd, Int.add_mul, Int.mul_add]
    have c1 := Int.mul_comm a.1 v.2
    have c2 := Int.mul_comm a.2 v.1
    have c3 := Int.mul_comm v.1 v.2
    omega
  have e2 : cyc (fun a b => crossP (vAdd v a) (vAdd v b)) ps = cyc (fun a b => crossP a b + ((v.1 * b.2 - v.2 * b.1) - (v.1 * a.2 - v.2 * a.1))) ps := sumN_congr _ fun k _ => e _ _
  rw [e2]
  have e3 : cyc (fun a b => crossP a b + ((v.1 * b.2 - v.2 * b.1) - (v.1 * a.2 - v.2 * a.1))) ps = cyc crossP ps + cyc (fun a b => (v.1 * b.2 - v.2 * b.1) - (v.1 * a.2 - v.2 * a.1)) ps := sumN_plus _ _ _
  rw [e3, cyc_diff (fun a => v.1 * a.2 - v.2 * a.1)]
  omega

theorem onC_shift (v : Pt) (ps : List Pt) : onC (ps.map (vAdd v)) = onC ps := by
  rw [onC_cyc, onC_cyc, cyc_map]
  refine sumN_congr _ fun k _ => ?_
  have : ∀ a b, gcdE (vAdd v a) (vAdd v b) = gcdE a b := fun a b => by
    unfold gcdE vAdd
    congr 2 <;> simp only <;> omega
  simp only [this]

theorem areaC_neg (ps : List Pt) : areaC (ps.map vNeg) = areaC ps := by
  rw [areaC_cyc, areaC_cyc, cyc_map]
  refine sumN_congr _ fun k _ => ?_
  simp only [crossP, crossI, vNeg, Int.zero_sub, Int.neg_mul_neg]

theorem onC_neg (ps : List Pt) : onC (ps.map vNeg) = onC ps := by
  rw [onC_cyc, onC_cyc, cyc_map]
  refine sumN_congr _ fun k _ => ?_
  have : ∀ a b, gcdE (vNeg a) (vNeg b) = gcdE a b := fun a b => by
    unfold gcdE vNeg
    congr 1 <;> simp only <;> omega
  simp only [this]

end Go.Proofs.Ytjmklbkcpjmcaaa.V
