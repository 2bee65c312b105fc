/-
  Plain laws: scaled polygons, points counted by classes of a grid, and the packing of an admissible grid.
-/
import Derived.Test.YtjmklbkcpjmcaaaP5
import Derived.Test.YtjmklbkcpjmcaaaO2
namespace Go.Proofs.Ytjmklbkcpjmcaaa.V
open Go Go.RowKit Go.Proofs.Ytjmklbkcpjmcaaa.H Go.Proofs.Ytjmklbkcpjmcaaa.LL
set_option linter.unusedVariables false
set_option linter.unusedSimpArgs false

/-! scaling -/
def sc (m : Int) (v : Pt) : Pt := (m * v.1, m * v.2)
theorem cr_scR (m : Int) (a b : Pt) : cr a (sc m b) = m * cr a b := by unfold cr sc; grind
theorem cr_sc2 (m : Int) (a b : Pt) : cr (sc m a) (sc m b) = (m * m) * cr a b := by unfold cr sc; grind
theorem hh_sc (m : Int) (a : Pt) : hh (sc m a) = m * hh a := by unfold hh sc; grind
theorem sb_sc (m : Int) (a b : Pt) : sb (sc m a) (sc m b) = sc m (sb a b) := by
  unfold sb sc
  rw [Prod.mk.injEq]
  exact ⟨(Int.mul_sub _ _ _).symm, (Int.mul_sub _ _ _).symm⟩
theorem E_sc (m : Int) {p : List Pt} {k : Nat} (hk : k < p.length) : E (p.map (sc m)) k = sc m (E p k) := by
  rw [E_eq (by simpa using hk), E_eq hk, nth_map _ hk, nx_map _ hk, sb_sc]
theorem An_sc {m : Int} (hm : 0 < m) {a b : Pt} (h : An a b) : An (sc m a) (sc m b) := by
  have pos : ∀ {x : Int}, 0 < x → 0 < m * x := fun hx => Int.mul_pos hm hx
  have neg : ∀ {x : Int}, x < 0 → m * x < 0 := fun hx => Int.mul_neg_of_pos_of_neg hm hx
  unfold An
  rw [hh_sc, hh_sc, cr_sc2]
  rcases h with ⟨h1, h2⟩ | ⟨h1 | h1, h2⟩
  · exact .inl ⟨pos h1, neg h2⟩
  · exact .inr ⟨.inl ⟨pos h1.1, pos h1.2⟩, Int.mul_pos (Int.mul_pos hm hm) h2⟩
  · exact .inr ⟨.inr ⟨neg h1.1, neg h1.2⟩, Int.mul_pos (Int.mul_pos hm hm) h2⟩
theorem Sr.scale {p : List Pt} (hp : Sr p) {m : Int} (hm : 0 < m) : Sr (p.map (sc m)) where
  len := by rw [List.length_map]; exact hp.len
  ne k hk := by
    rw [List.length_map] at hk
    rw [E_sc m hk, hh_sc]
    intro h
    rcases Int.mul_eq_zero.1 h with h | h
    · omega
    · exact hp.ne k hk h
  srt i j hij hj := by
    rw [List.length_map] at hj
    rw [E_sc m (by omega), E_sc m hj]
    exact An_sc hm (hp.srt i j hij hj)
theorem areaC_sc (m : Int) (p : List Pt) : areaC (p.map (sc m)) = (m * m) * areaC p := by
  rw [areaC_cyc, areaC_cyc, cyc_map]
  have e : ∀ a b, crossP (sc m a) (sc m b) = (m * m) * crossP a b := fun a b => by
    simp only [crossP, crossI, sc]; grind
  unfold cyc
  rw [← sumN_mulc]
  exact sumN_congr _ fun k _ => e _ _
theorem gcdE_sc (m : Nat) (a b : Pt) : gcdE (sc m a) (sc m b) = m * gcdE a b := by
  unfold gcdE sc
  simp only
  rw [← Int.mul_sub, ← Int.mul_sub, Int.natAbs_mul, Int.natAbs_mul, Int.natAbs_natCast, Nat.gcd_mul_left]
theorem onC_sc (m : Nat) (p : List Pt) : onC (p.map (sc m)) = m * onC p := by
  rw [onC_cyc, onC_cyc, cyc_map]
  unfold cyc
  rw [← sumN_mulc]
  refine sumN_congr _ fun k _ => ?_
  show ((gcdE (sc (m : Int) (nth p k)) (sc (m : Int) (nx p k)) : Nat) : Int) = (m : Int) * ((gcdE (nth p k) (nx p k) : Nat) : Int)
  rw [gcdE_sc, Int.natCast_mul]
theorem gcdE_le {a b : Pt} {N : Nat} (h1 : (b.1 - a.1).natAbs ≤ N) (h2 : (b.2 - a.2).natAbs ≤ N) : gcdE a b ≤ N := by
  unfold gcdE
  by_cases h : 0 < (b.1 - a.1).natAbs
  · exact Nat.le_trans (Nat.gcd_le_left _ h) h1
  · rw [show (b.1 - a.1).natAbs = 0 by omega, Nat.gcd_zero_left]; exact h2
theorem onC_le {p : List Pt} {N : Nat} (h : ∀ a ∈ p, ∀ b ∈ p, (b.1 - a.1).natAbs ≤ N ∧ (b.2 - a.2).natAbs ≤ N) : onC p ≤ (N : Int) * p.length := by
  unfold onC
  rw [← sumN_const]
  refine sumN_le _ fun k hk => ?_
  have := gcdE_le (h _ (nth_mem hk) _ (nx_mem hk)).1 (h _ (nth_mem hk) _ (nx_mem hk)).2
  omega

/-- a point in the interior of a scaled polygon lies on the inner side of some corner, in every direction -/
theorem in_sc {S : List Pt} (hS : Sr S) {m : Int} (hm : 0 < m) {x : Pt} (hx : InI (S.map (sc m)) x) {e : Pt} (he : hh e ≠ 0) : (∃ s ∈ S, m * cr e s < cr e x) ∧ ∃ s ∈ S, cr e x < m * cr e s := by
  constructor
  · obtain ⟨v, hv, -, -, h3⟩ := (hS.scale hm).corner he
    obtain ⟨s, hs, rfl⟩ := List.mem_map.1 hv
    have := h3 x hx
    rw [cr_scR] at this
    exact ⟨s, hs, this⟩
  · obtain ⟨v, hv, -, -, h3⟩ := (hS.scale hm).corner (e := vNeg e) (by rw [hh_vNeg]; omega)
    obtain ⟨s, hs, rfl⟩ := List.mem_map.1 hv
    have := h3 x hx
    rw [cr_vNeg, cr_vNeg, cr_scR] at this
    exact ⟨s, hs, by omega⟩

/-! counting -/
theorem sumN_swap (g : Nat → Nat → Int) (M : Nat) : ∀ N, sumN (fun i => sumN (fun c => g i c) M) N = sumN (fun c => sumN (fun i => g i c) N) M
  | 0 => by simp only [sumN]; exact (sumN_zero M fun _ _ => rfl).symm
  | N + 1 => by
    have : sumN (fun c => sumN (fun i => g i c) (N + 1)) M = sumN (fun c => sumN (fun i => g i c) N + g N c) M := rfl
    rw [this, sumN_plus, sumN, sumN_swap g M N]
theorem sumN_one {R : Nat → Prop} [DecidablePred R] : ∀ N, (∀ i j, i < N → j < N → R i → R j → i = j) → sumN (fun i => if R i then 1 else 0) N = if ∃ i, i < N ∧ R i then 1 else 0
  | 0, _ => by rw [sumN, if_neg (fun ⟨i, hi, _⟩ => absurd hi (Nat.not_lt_zero _))]
  | N + 1, h => by
    rw [sumN, sumN_one N (fun i j hi hj => h i j (by omega) (by omega))]
    by_cases hN : R N
    · rw [if_pos hN, if_neg (fun ⟨i, hi, hR⟩ => by have := h i N (by omega) (by omega) hR hN; omega), if_pos ⟨N, by omega, hN⟩]
      rfl
    · rw [if_neg hN]
      by_cases he : ∃ i, i < N ∧ R i
      · obtain ⟨i, hi, hR⟩ := he
        rw [if_pos ⟨i, hi, hR⟩, if_pos ⟨i, by omega, hR⟩]
        rfl
      · rw [if_neg he, if_neg (fun ⟨i, hi, hR⟩ => he ⟨i, by
          rcases Nat.lt_succ_iff_lt_or_eq.1 hi with h1 | rfl
          · exact h1
          · exact absurd hR hN, hR⟩)]
        rfl
open Classical in
theorem count_le (Q : Nat → Nat → Prop) [∀ i j, Decidable (Q i j)] (f : Nat → Nat → Nat) (N1 N2 M : Nat) (hf : ∀ i j, Q i j → f i j < M)
    (inj : ∀ i j i' j', i < N1 → i' < N1 → j < N2 → j' < N2 → Q i j → Q i' j' → f i j = f i' j' → i = i' ∧ j = j') :
    sumN (fun i => sumN (fun j => if Q i j then 1 else 0) N2) N1 ≤ M := by
  have e1 : ∀ i j, (if Q i j then (1 : Int) else 0) = sumN (fun c => if Q i j ∧ f i j = c then 1 else 0) M := fun i j => by
    rw [sumN_one M (fun c c' _ _ h h' => h.2.symm.trans h'.2)]
    by_cases h : Q i j
    · rw [if_pos h, if_pos ⟨f i j, hf i j h, h, rfl⟩]
    · rw [if_neg h, if_neg (fun ⟨c, _, h', _⟩ => h h')]
  have e2 : sumN (fun i => sumN (fun j => if Q i j then (1 : Int) else 0) N2) N1 = sumN (fun c => sumN (fun i => sumN (fun j => if Q i j ∧ f i j = c then 1 else 0) N2) N1) M := by
    refine Eq.trans (sumN_congr _ fun i _ => ?_) (sumN_swap (fun i c => sumN (fun j => if Q i j ∧ f i j = c then (1 : Int) else 0) N2) M N1)
    exact Eq.trans (sumN_congr _ fun j _ => e1 i j) (sumN_swap (fun j c => if Q i j ∧ f i j = c then (1 : Int) else 0) M N2)
  rw [e2]
  have e3 : sumN (fun c => sumN (fun i => sumN (fun j => if Q i j ∧ f i j = c then (1 : Int) else 0) N2) N1) M ≤ sumN (fun _ => 1) M := by
    refine sumN_le _ fun c _ => ?_
    have e4 : sumN (fun i => sumN (fun j => if Q i j ∧ f i j = c then (1 : Int) else 0) N2) N1 = sumN (fun i => if ∃ j, j < N2 ∧ Q i j ∧ f i j = c then (1 : Int) else 0) N1 := by
      refine sumN_congr _ fun i hi => ?_
      exact sumN_one N2 (fun j j' hj hj' h h' => (inj i j i j' hi hi hj hj' h.1 h'.1 (h.2.trans h'.2.symm)).2)
    rw [e4, sumN_one N1 (fun i i' hi hi' ⟨j, hj, h⟩ ⟨j', hj', h'⟩ => (inj i j i' j' hi hi' hj hj' h.1 h'.1 (h.2.trans h'.2.symm)).1)]
    split <;> omega
  rw [sumN_const] at e3
  omega

/-- the class of a point, in a grid -/
def cls (A B D : Int) (X Y : Int) : Nat := (X % A * D + (Y - X / A * B) % D).toNat
theorem cls_lt {A B D X Y : Int} (hA : 0 < A) (hD : 0 < D) : cls A B D X Y < (A * D).toNat := by
  have h1 := Int.emod_nonneg X (show A ≠ 0 by omega)
  have h2 := Int.emod_lt_of_pos X hA
  have h3 := Int.emod_nonneg (Y - X / A * B) (show D ≠ 0 by omega)
  have h4 := Int.emod_lt_of_pos (Y - X / A * B) hD
  have h5 : X % A * D ≤ (A - 1) * D := Int.mul_le_mul_of_nonneg_right (by omega) (by omega)
  have h6 := Int.mul_nonneg h1 (show 0 ≤ D by omega)
  have h7 : (A - 1) * D = A * D - D := by rw [Int.sub_mul, Int.one_mul]
  unfold cls
  omega
theorem cls_eq {A B D X Y X' Y' : Int} (hA : 0 < A) (hD : 0 < D) (h : cls A B D X Y = cls A B D X' Y') : ∃ k j : Int, X - X' = A * k ∧ Y - Y' = B * k + D * j := by
  have h1 := Int.emod_nonneg X (show A ≠ 0 by omega)
  have h3 := Int.emod_nonneg (Y - X / A * B) (show D ≠ 0 by omega)
  have h4 := Int.emod_lt_of_pos (Y - X / A * B) hD
  have h1' := Int.emod_nonneg X' (show A ≠ 0 by omega)
  have h3' := Int.emod_nonneg (Y' - X' / A * B) (show D ≠ 0 by omega)
  have h4' := Int.emod_lt_of_pos (Y' - X' / A * B) hD
  have h6 := Int.mul_nonneg h1 (show 0 ≤ D by omega)
  have h6' := Int.mul_nonneg h1' (show 0 ≤ D by omega)
  have he : X % A * D + (Y - X / A * B) % D = X' % A * D + (Y' - X' / A * B) % D := by unfold cls at h; omega
  have hx : X % A = X' % A := by
    rcases Int.lt_trichotomy (X % A) (X' % A) with hl | hl | hl
    · have : (X % A + 1) * D ≤ X' % A * D := Int.mul_le_mul_of_nonneg_right (by omega) (by omega)
      rw [Int.add_mul, Int.one_mul] at this
      omega
    · exact hl
    · have : (X' % A + 1) * D ≤ X % A * D := Int.mul_le_mul_of_nonneg_right (by omega) (by omega)
      rw [Int.add_mul, Int.one_mul] at this
      omega
  have hy : (Y - X / A * B) % D = (Y' - X' / A * B) % D := by rw [hx] at he; omega
  have d1 := Int.mul_ediv_add_emod X A
  have d2 := Int.mul_ediv_add_emod X' A
  have d3 := Int.mul_ediv_add_emod (Y - X / A * B) D
  have d4 := Int.mul_ediv_add_emod (Y' - X' / A * B) D
  refine ⟨X / A - X' / A, (Y - X / A * B) / D - (Y' - X' / A * B) / D, ?_, ?_⟩
  · rw [Int.mul_sub]; omega
  · rw [Int.mul_sub, Int.mul_sub]
    have c1 : X / A * B = B * (X / A) := Int.mul_comm _ _
    have c2 : X' / A * B = B * (X' / A) := Int.mul_comm _ _
    omega

/-- interior points that differ by no vector of a grid are no more than its index -/
theorem pack_count {Q : List Pt} {A B D : Int} (hA : 0 < A) (hD : 0 < D) (h : ∀ x y : Pt, InI Q x → InI Q y → (∃ k j : Int, x.1 - y.1 = A * k ∧ x.2 - y.2 = B * k + D * j) → x = y) : cI Q ≤ A * D := by
  have := count_le (fun iy ix => InI Q ((ix : Nat) - 10000, (iy : Nat) - 10000)) (fun iy ix => cls A B D ((ix : Nat) - 10000) ((iy : Nat) - 10000)) 20001 20001 (A * D).toNat (fun i j _ => cls_lt hA hD)
    (fun i j i' j' _ _ _ _ h1 h2 he => by
      have h3 := h _ _ h1 h2 (cls_eq hA hD he)
      simp only [Prod.mk.injEq] at h3
      omega)
  have h5 := Int.mul_pos hA hD
  have h6 : cI Q ≤ ((A * D).toNat : Int) := this
  omega

/-! the grid -/
theorem hasG_mk {A B D : Int} (hA : 0 < A) (hD : 0 < D) (k j : Int) : hasG (A, B, D) (A * k, B * k + D * j) = true := by
  simp only [hasG, Bool.and_eq_true, decide_eq_true_eq]
  refine ⟨Int.mul_tmod_right _ _, ?_⟩
  rw [Int.mul_tdiv_cancel_left _ (by omega)]
  rw [show B * k + D * j - k * B = D * j by rw [Int.mul_comm k B]; omega]
  exact Int.mul_tmod_right _ _

/-- no vector of an admissible grid makes the blank collide: a direction says so -/
theorem adm_sep {p : List Pt} (hb : blankF p = true) {A B D : Int} (hA : 0 < A) (hD : 0 < D) (hadm : admB p (A, B, D) = true) {k j : Int} (hne : (A * k, B * k + D * j) ≠ ((0, 0) : Pt))
    (h1 : -12 < A * k ∧ A * k < 12) (h2 : -12 < B * k + D * j ∧ B * k + D * j < 12) : ∃ e : Pt, hh e ≠ 0 ∧ ∀ u ∈ p, ∀ v ∈ p, cr e u + cr e (A * k, B * k + D * j) ≤ cr e v := by
  have hg := hasG_mk (B := B) hA hD k j
  generalize hl : ((A * k, B * k + D * j) : Pt) = t at *
  have t1 : t.1 = A * k := by rw [← hl]
  have t2 : t.2 = B * k + D * j := by rw [← hl]
  have htb : Bd2 900 t.1 t.2 := ⟨⟨by omega, by omega⟩, ⟨by omega, by omega⟩⟩
  have hno : hitB p t = false := by
    rcases Bool.eq_false_or_eq_true (hitB p t) with h | h
    · exfalso
      have hmem : t ∈ hits p := by
        simp only [hitsN, List.mem_filter, List.mem_map, List.mem_range]
        refine ⟨⟨25 * (t.1 + 12).toNat + (t.2 + 12).toNat, by omega, ?_⟩, h⟩
        rw [bx_at (by omega)]
        exact Prod.ext (by simp only; omega) (by simp only; omega)
      rw [admB, List.any_eq_true.2 ⟨t, hmem, hg⟩] at hadm
      cases hadm
    · exact h
  rw [hitB_eq hb htb] at hno
  have hp : (partedF p (p.map (vAdd t))).2 = true := by
    rcases Bool.eq_false_or_eq_true (partedF p (p.map (vAdd t))).2 with h | h
    · exact h
    · rw [h, decide_eq_true hne] at hno; cases hno
  obtain ⟨_, hq⟩ := move_blank hb htb
  have sp := valid_sr (blankF_spec hb).1
  have sq := valid_sr hq
  have h3 := sp.len
  have key : ∀ e, SepE p (p.map (vAdd t)) e → ∀ u ∈ p, ∀ v ∈ p, cr e u + cr e t ≤ cr e v := fun e he u hu v hv => by
    have := he v hv (vAdd t u) (List.mem_map.2 ⟨u, hu, rfl⟩)
    have e1 : cr e (vAdd t u) = cr e u + cr e t := by unfold cr vAdd; grind
    omega
  rcases (parted_sep (by omega) (by simp; omega)).1 hp with ⟨i, hi, hs⟩ | ⟨i, hi, hs⟩
  · exact ⟨_, sp.ne i hi, key _ hs⟩
  · refine ⟨_, ?_, key _ hs⟩
    rw [hh_vNeg]
    have := sq.ne i hi
    omega

theorem mul_lt_12 {m t : Int} (hm : 0 < m) (h : m * t < m * 12) : t < 12 := by
  rcases Int.lt_or_le t 12 with h1 | h1
  · exact h1
  · have := Int.mul_le_mul_of_nonneg_left h1 (show 0 ≤ m by omega)
    omega
theorem lt_mul_12 {m t : Int} (hm : 0 < m) (h : m * (-12) < m * t) : -12 < t := by
  rcases Int.lt_or_le (-12) t with h1 | h1
  · exact h1
  · have := Int.mul_le_mul_of_nonneg_left h1 (show 0 ≤ m by omega)
    omega

/-- the differences of two points in the interior of a scaled polygon -/
theorem diff_bd {S : List Pt} (hS : Sr S) {m : Int} (hm : 0 < m) {lo hi : Int} (hb : ∀ s ∈ S, lo ≤ s.1 ∧ s.1 ≤ hi ∧ lo ≤ s.2 ∧ s.2 ≤ hi) {x y : Pt} (hx : InI (S.map (sc m)) x) (hy : InI (S.map (sc m)) y) :
    m * (lo - hi) < x.1 - y.1 ∧ x.1 - y.1 < m * (hi - lo) ∧ m * (lo - hi) < x.2 - y.2 ∧ x.2 - y.2 < m * (hi - lo) := by
  have key : ∀ z : Pt, InI (S.map (sc m)) z → m * lo < z.1 ∧ z.1 < m * hi ∧ m * lo < z.2 ∧ z.2 < m * hi := fun z hz => by
    have m0 : 0 ≤ m := by omega
    obtain ⟨⟨s1, hs1, a1⟩, s2, hs2, a2⟩ := in_sc hS hm hz (e := (0, -1)) (by decide)
    obtain ⟨⟨s3, hs3, a3⟩, s4, hs4, a4⟩ := in_sc hS hm hz (e := (1, 0)) (by decide)
    have c : ∀ w : Pt, cr (0, -1) w = w.1 := fun w => by unfold cr; simp only; omega
    have d : ∀ w : Pt, cr (1, 0) w = w.2 := fun w => by unfold cr; simp only; omega
    rw [c, c] at a1 a2
    rw [d, d] at a3 a4
    have b1 := Int.mul_le_mul_of_nonneg_left (hb s1 hs1).1 m0
    have b2 := Int.mul_le_mul_of_nonneg_left (hb s2 hs2).2.1 m0
    have b3 := Int.mul_le_mul_of_nonneg_left (hb s3 hs3).2.2.1 m0
    have b4 := Int.mul_le_mul_of_nonneg_left (hb s4 hs4).2.2.2 m0
    omega
  have k1 := key x hx
  have k2 := key y hy
  rw [Int.mul_sub, Int.mul_sub]
  omega

theorem area_one {p : List Pt} (hb : blankF p = true) {A B D : Int} (hA : 0 < A) (hD : 0 < D) (hadm : admB p (A, B, D) = true) : areaC p ≤ 2 * (A * D) := by
  have hv := (blankF_spec hb).1
  obtain ⟨v1, v2, _, _⟩ := validF_spec hv
  have sp := valid_sr hv
  have hbb : ∀ s ∈ p, 0 ≤ s.1 ∧ s.1 ≤ 12 ∧ 0 ≤ s.2 ∧ s.2 ≤ 12 := fun s hs => blank_bd hb hs
  have hc : cI (p.map (sc 384)) ≤ (384 * A) * (384 * D) := by
    refine pack_count (B := 384 * B) (by omega) (by omega) fun x y hx hy ⟨k, j, hk, hj⟩ => ?_
    by_cases hne : (A * k, B * k + D * j) = ((0, 0) : Pt)
    · simp only [Prod.mk.injEq] at hne
      have e1 : 384 * A * k = 384 * (A * k) := Int.mul_assoc _ _ _
      have e2 : 384 * B * k + 384 * D * j = 384 * (B * k + D * j) := by rw [Int.mul_add, Int.mul_assoc, Int.mul_assoc]
      rw [e1, hne.1] at hk
      rw [e2, hne.2] at hj
      exact Prod.ext (by omega) (by omega)
    · exfalso
      have hdb := diff_bd sp (m := 384) (by decide) hbb hx hy
      have e1 : 384 * A * k = 384 * (A * k) := Int.mul_assoc _ _ _
      have e2 : 384 * B * k + 384 * D * j = 384 * (B * k + D * j) := by rw [Int.mul_add, Int.mul_assoc, Int.mul_assoc]
      rw [e1] at hk
      rw [e2] at hj
      obtain ⟨e, he, hs⟩ := adm_sep hb hA hD hadm hne ⟨by omega, by omega⟩ ⟨by omega, by omega⟩
      obtain ⟨⟨s, hs1, a1⟩, _⟩ := in_sc sp (m := 384) (by decide) hx he
      obtain ⟨_, s', hs2, a2⟩ := in_sc sp (m := 384) (by decide) hy he
      have h5 := hs s' hs2 s hs1
      have h6 : cr e x - cr e y = 384 * cr e (A * k, B * k + D * j) := by
        have : cr e x - cr e y = cr e (x.1 - y.1, x.2 - y.2) := by unfold cr; grind
        rw [this, hk, hj]
        exact cr_scR 384 e (A * k, B * k + D * j)
      omega
  have hpk := (pick (sp.scale (m := 384) (by decide)) (fun v hv => by
    obtain ⟨s, hs, rfl⟩ := List.mem_map.1 hv
    have := hbb s hs
    exact ⟨⟨by simp only [sc]; omega, by simp only [sc]; omega⟩, ⟨by simp only [sc]; omega, by simp only [sc]; omega⟩⟩)).2
  have ha := areaC_sc 384 p
  have ho : onC (p.map (sc 384)) = 384 * onC p := onC_sc 384 p
  have hon := onC_le (p := p) (N := 12) (fun a ha b hb => by
    have h1 := hbb a ha
    have h2 := hbb b hb
    omega)
  have hAD : 384 * A * (384 * D) = 147456 * (A * D) := by grind
  omega

/-- the sum of a blank and its flip -/
theorem area_two {p S : List Pt} (hb : blankF p = true) {A B D : Int} (hA : 0 < A) (hD : 0 < D) (hadm : admB p (A, B, D) = true) (hS : Sr S) (hlen : S.length ≤ 32) (hmem : ∀ s ∈ S, ∃ a ∈ p, ∃ b ∈ p, s = sb a b) : areaC S ≤ 8 * (A * D) := by
  have hbb : ∀ s ∈ S, -12 ≤ s.1 ∧ s.1 ≤ 12 ∧ -12 ≤ s.2 ∧ s.2 ≤ 12 := fun s hs => by
    obtain ⟨a, ha, b, hbp, rfl⟩ := hmem s hs
    have h1 := blank_bd hb ha
    have h2 := blank_bd hb hbp
    unfold sb
    simp only
    omega
  have hc : cI (S.map (sc 768)) ≤ (1536 * A) * (1536 * D) := by
    refine pack_count (B := 1536 * B) (by omega) (by omega) fun x y hx hy ⟨k, j, hk, hj⟩ => ?_
    have e1 : 1536 * A * k = 1536 * (A * k) := Int.mul_assoc _ _ _
    have e2 : 1536 * B * k + 1536 * D * j = 1536 * (B * k + D * j) := by rw [Int.mul_add, Int.mul_assoc, Int.mul_assoc]
    rw [e1] at hk
    rw [e2] at hj
    by_cases hne : (A * k, B * k + D * j) = ((0, 0) : Pt)
    · simp only [Prod.mk.injEq] at hne
      rw [hne.1] at hk
      rw [hne.2] at hj
      exact Prod.ext (by omega) (by omega)
    · exfalso
      have hdb := diff_bd hS (m := 768) (by decide) hbb hx hy
      obtain ⟨e, he, hs⟩ := adm_sep hb hA hD hadm hne ⟨by omega, by omega⟩ ⟨by omega, by omega⟩
      obtain ⟨⟨s, hs1, a1⟩, _⟩ := in_sc hS (m := 768) (by decide) hx he
      obtain ⟨_, s', hs2, a2⟩ := in_sc hS (m := 768) (by decide) hy he
      obtain ⟨a, ha, b, hbp, rfl⟩ := hmem s hs1
      obtain ⟨a', ha', b', hbp', rfl⟩ := hmem s' hs2
      have h5 := hs b hbp a ha
      have h7 := hs a' ha' b' hbp'
      have q1 : cr e (sb a b) = cr e a - cr e b := by unfold cr sb; grind
      have q2 : cr e (sb a' b') = cr e a' - cr e b' := by unfold cr sb; grind
      have h6 : cr e x - cr e y = 1536 * cr e (A * k, B * k + D * j) := by
        have : cr e x - cr e y = cr e (x.1 - y.1, x.2 - y.2) := by unfold cr; grind
        rw [this, hk, hj]
        exact cr_scR 1536 e (A * k, B * k + D * j)
      rw [q1] at a1
      rw [q2] at a2
      omega
  have hpk := (pick (hS.scale (m := 768) (by decide)) (fun v hv => by
    obtain ⟨s, hs, rfl⟩ := List.mem_map.1 hv
    have := hbb s hs
    exact ⟨⟨by simp only [sc]; omega, by simp only [sc]; omega⟩, ⟨by simp only [sc]; omega, by simp only [sc]; omega⟩⟩)).2
  have ha := areaC_sc 768 S
  have ho : onC (S.map (sc 768)) = 768 * onC S := onC_sc 768 S
  have hon := onC_le (p := S) (N := 24) (fun a ha b hb => by
    have h1 := hbb a ha
    have h2 := hbb b hb
    omega)
  have hAD : 1536 * A * (1536 * D) = 2359296 * (A * D) := by grind
  omega

end Go.Proofs.Ytjmklbkcpjmcaaa.V
