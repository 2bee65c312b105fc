/-
  Polygons, plainly: sums and counts around a polygon; where the list begins does not matter.
-/
import Derived.Test.YtjmklbkcpjmcaaaM1
namespace Go.Proofs.Ytjmklbkcpjmcaaa.V
open Go Go.RowKit Go.Proofs.Ytjmklbkcpjmcaaa.H
set_option linter.unusedVariables false
set_option linter.unusedSimpArgs false

theorem sumN_congr {f g : Nat → Int} : ∀ n, (∀ k, k < n → f k = g k) → sumN f n = sumN g n
  | 0, _ => rfl
  | n + 1, h => by
    rw [sumN, sumN, sumN_congr n (fun k hk => h k (by omega)), h n (by omega)]

theorem sumN_plus (f g : Nat → Int) : ∀ n, sumN (fun k => f k + g k) n = sumN f n + sumN g n
  | 0 => rfl
  | n + 1 => by simp only [sumN, sumN_plus f g n]; omega

theorem sumN_minus (f g : Nat → Int) : ∀ n, sumN (fun k => f k - g k) n = sumN f n - sumN g n
  | 0 => rfl
  | n + 1 => by simp only [sumN, sumN_minus f g n]; omega

theorem sumN_split (f : Nat → Int) (a : Nat) : ∀ b, sumN f (a + b) = sumN f a + sumN (fun k => f (a + k)) b
  | 0 => by simp [sumN]
  | b + 1 => by
    rw [← Nat.add_assoc, sumN, sumN, sumN_split f a b]; omega

theorem sumN_rot (g : Nat → Int) (n m : Nat) (hm : m ≤ n) : sumN (fun k => g ((k + m) % n)) n = sumN g n := by
  obtain ⟨r, rfl⟩ : ∃ r, n = r + m := ⟨n - m, by omega⟩
  rw [sumN_split _ r m]
  have e1 : sumN (fun k => g ((k + m) % (r + m))) r = sumN (fun k => g (m + k)) r := sumN_congr r fun k hk => by
    rw [Nat.mod_eq_of_lt (by omega), Nat.add_comm]
  have e2 : sumN (fun k => g ((r + k + m) % (r + m))) m = sumN g m := sumN_congr m fun k hk => by
    have : r + k + m = k + (r + m) := by omega
    rw [this, Nat.add_mod_right, Nat.mod_eq_of_lt (by omega)]
  rw [e1, e2, Nat.add_comm r m, sumN_split g m r]
  omega

theorem nth_map (f : Pt → Pt) {ps : List Pt} {k : Nat} (h : k < ps.length) : nth (ps.map f) k = f (nth ps k) := by
  rw [nth_get h, nth_get (by simpa using h)]; simp
theorem nx_map (f : Pt → Pt) {ps : List Pt} {k : Nat} (h : k < ps.length) : nx (ps.map f) k = f (nx ps k) := by
  unfold nx
  rw [List.length_map]
  exact nth_map f (Nat.mod_lt _ (by omega))

theorem nth_rot {A B : List Pt} {k : Nat} (h : k < A.length + B.length) : nth (B ++ A) k = nth (A ++ B) ((k + A.length) % (A.length + B.length)) := by
  have h1 : k < (B ++ A).length := by simp; omega
  have h2 : (k + A.length) % (A.length + B.length) < (A ++ B).length := by rw [List.length_append]; exact Nat.mod_lt _ (by omega)
  rw [nth_get h1, nth_get h2]
  by_cases hk : k < B.length
  · have e : (k + A.length) % (A.length + B.length) = k + A.length := Nat.mod_eq_of_lt (by omega)
    rw [List.getElem_append_left hk, List.getElem_append_right (by omega)]
    congr 1
    omega
  · have e : (k + A.length) % (A.length + B.length) = k - B.length := by
      have : k + A.length = (k - B.length) + (A.length + B.length) := by omega
      rw [this, Nat.add_mod_right, Nat.mod_eq_of_lt (by omega)]
    rw [List.getElem_append_right (by omega), List.getElem_append_left (by omega)]
    congr 1
    omega

theorem nx_rot {A B : List Pt} {k : Nat} (h : k < A.length + B.length) : nx (B ++ A) k = nx (A ++ B) ((k + A.length) % (A.length + B.length)) := by
  unfold nx
  have e1 : (B ++ A).length = A.length + B.length := by simp; omega
  have e2 : (A ++ B).length = A.length + B.length := by simp
  rw [e1, e2, nth_rot (Nat.mod_lt _ (by omega))]
  congr 1
  rw [Nat.mod_add_mod, Nat.mod_add_mod]
  congr 1
  omega

/-- sums around a polygon -/
def cyc (F : Pt → Pt → Int) (ps : List Pt) : Int := sumN (fun k => F (nth ps k) (nx ps k)) ps.length

theorem cyc_rot (F : Pt → Pt → Int) (A B : List Pt) : cyc F (B ++ A) = cyc F (A ++ B) := by
  unfold cyc
  have e1 : (B ++ A).length = A.length + B.length := by simp; omega
  have e2 : (A ++ B).length = A.length + B.length := by simp
  rw [e1, e2, ← sumN_rot (fun k => F (nth (A ++ B) k) (nx (A ++ B) k)) (A.length + B.length) A.length (by omega)]
  exact sumN_congr _ fun k hk => by rw [nth_rot hk, nx_rot hk]

theorem cyc_map (F : Pt → Pt → Int) (f : Pt → Pt) (ps : List Pt) : cyc F (ps.map f) = cyc (fun a b => F (f a) (f b)) ps := by
  unfold cyc
  rw [List.length_map]
  exact sumN_congr _ fun k hk => by rw [nth_map f hk, nx_map f hk]

/-- a sum of differences around a polygon is nothing -/
theorem cyc_diff (h : Pt → Int) (ps : List Pt) : cyc (fun a b => h b - h a) ps = 0 := by
  unfold cyc
  rw [sumN_minus (fun k => h (nx ps k)) (fun k => h (nth ps k))]
  rcases Nat.eq_zero_or_pos ps.length with h0 | h0
  · rw [h0]; rfl
  · have := sumN_rot (fun k => h (nth ps k)) ps.length 1 h0
    have e : sumN (fun k => h (nx ps k)) ps.length = sumN (fun k => h (nth ps ((k + 1) % ps.length))) ps.length := rfl
    rw [e, this]; omega

theorem areaC_cyc (ps : List Pt) : areaC ps = cyc crossP ps := rfl
theorem onC_cyc (ps : List Pt) : onC ps = cyc (fun a b => (gcdE a b : Int)) ps := rfl

theorem areaC_shift (v : Pt) (ps : List Pt) : areaC (ps.map (vAdd v)) = areaC ps := by
  rw [areaC_cyc, areaC_cyc, cyc_map]
  have e : ∀ a b, crossP (vAdd v a) (vAdd v b) = crossP a b + ((v.1 * b.2 - v.2 * b.1) - (v.1 * a.2 - v.2 * a.1)) := fun a b => by
    simp only [crossP, crossI, vAdd, Int.add_mul, Int.mul_add]
    have c1 := Int.mul_comm a.1 v.2
    have c2 := Int.mul_comm a.2 v.1
    have c3 := Int.mul_comm v.1 v.2
    omega
  have e2 : cyc (fun a b => crossP (vAdd v a) (vAdd v b)) ps = cyc (fun a b => crossP a b + ((v.1 * b.2 - v.2 * b.1) - (v.1 * a.2 - v.2 * a.1))) ps := sumN_congr _ fun k _ => e _ _
  rw [e2]
  have e3 : cyc (fun a b => crossP a b + ((v.1 * b.2 - v.2 * b.1) - (v.1 * a.2 - v.2 * a.1))) ps = cyc crossP ps + cyc (fun a b => (v.1 * b.2 - v.2 * b.1) - (v.1 * a.2 - v.2 * a.1)) ps := sumN_plus _ _ _
  rw [e3, cyc_diff (fun a => v.1 * a.2 - v.2 * a.1)]
  omega

theorem onC_shift (v : Pt) (ps : List Pt) : onC (ps.map (vAdd v)) = onC ps := by
  rw [onC_cyc, onC_cyc, cyc_map]
  refine sumN_congr _ fun k _ => ?_
  have : ∀ a b, gcdE (vAdd v a) (vAdd v b) = gcdE a b := fun a b => by
    unfold gcdE vAdd
    congr 2 <;> simp only <;> omega
  simp only [this]

theorem areaC_neg (ps : List Pt) : areaC (ps.map vNeg) = areaC ps := by
  rw [areaC_cyc, areaC_cyc, cyc_map]
  refine sumN_congr _ fun k _ => ?_
  simp only [crossP, crossI, vNeg, Int.zero_sub, Int.neg_mul_neg]

theorem onC_neg (ps : List Pt) : onC (ps.map vNeg) = onC ps := by
  rw [onC_cyc, onC_cyc, cyc_map]
  refine sumN_congr _ fun k _ => ?_
  have : ∀ a b, gcdE (vNeg a) (vNeg b) = gcdE a b := fun a b => by
    unfold gcdE vNeg
    congr 1 <;> simp only <;> omega
  simp only [this]

end Go.Proofs.Ytjmklbkcpjmcaaa.V
