/-
  Plain laws: scaled polygons, points counted by classes of a grid, and the packing of an admissible grid.
  Plain laws: layouts; their order, their vectors, their area.
-/
import Derived.Test.YtjmklbkcpjmcaaaP5
import Derived.Test.YtjmklbkcpjmcaaaO2
import Derived.Test.YtjmklbkcpjmcaaaU1
namespace Go.Proofs.Ytjmklbkcpjmcaaa.V
open Go Go.RowKit Go.Proofs.Ytjmklbkcpjmcaaa.H Go.Proofs.Ytjmklbkcpjmcaaa.LL
set_option linter.unusedVariables false
set_option linter.unusedSimpArgs false

/-! scaling -/
def sc (m : Int) (v : Pt) : Pt := (m * v.1, m * v.2)
theorem cr_scR (m : Int) (a b : Pt) : cr a (sc m b) = m * cr a b := by unfold cr sc; grind
theorem cr_sc2 (m : Int) (a b : Pt) : cr (sc m a) (sc m b) = (m * m) * cr a b := by unfold cr sc; grind
theorem hh_sc (m : Int) (a : Pt) : hh (sc m a) = m * hh a := by unfold hh sc; grind
theorem sb_sc (m : Int) (a b : Pt) : sb (sc m a) (sc m b) = sc m (sb a b) := by
  unfold sb sc
  rw [Prod.mk.injEq]
  exact ⟨(Int.mul_sub _ _ _).symm, (Int.mul_sub _ _ _).symm⟩
theorem E_sc (m : Int) {p : List Pt} {k : Nat} (hk : k < p.length) : E (p.map (sc m)) k = sc m (E p k) := by
  rw [E_eq (by simpa using hk), E_eq hk, nth_map _ hk, nx_map _ hk, sb_sc]
theorem An_sc {m : Int} (hm : 0 < m) {a b : Pt} (h : An a b) : An (sc m a) (sc m b) := by
  have pos : ∀ {x : Int}, 0 < x → 0 < m * x := fun hx => Int.mul_pos hm hx
  have neg : ∀ {x : Int}, x < 0 → m * x < 0 := fun hx => Int.mul_neg_of_pos_of_neg hm hx
  unfold An
  rw [hh_sc, hh_sc, cr_sc2]
  rcases h with ⟨h1, h2⟩ | ⟨h1 | h1, h2⟩
  · exact .inl ⟨pos h1, neg h2⟩
  · exact .inr ⟨.inl ⟨pos h1.1, pos h1.2⟩, Int.mul_pos (Int.mul_pos hm hm) h2⟩
  · exact .inr ⟨.inr ⟨neg h1.1, neg h1.2⟩, Int.mul_pos (Int.mul_pos hm hm) h2⟩
theorem Sr.scale {p : List Pt} (hp : Sr p) {m : Int} (hm : 0 < m) : Sr (p.map (sc m)) where
  len := by rw [List.length_map]; exact hp.len
  ne k hk := by
    rw [List.length_map] at hk
    rw [E_sc m hk, hh_sc]
    intro h
    rcases Int.mul_eq_zero.1 h with h | h
    · omega
    · exact hp.ne k hk h
  srt i j hij hj := by
    rw [List.length_map] at hj
    rw [E_sc m (by omega), E_sc m hj]
    exact An_sc hm (hp.srt i j hij hj)
theorem areaC_sc (m : Int) (p : List Pt) : areaC (p.map (sc m)) = (m * m) * areaC p := by
  rw [areaC_cyc, areaC_cyc, cyc_map]
  have e : ∀ a b, crossP (sc m a) (sc m b) = (m * m) * crossP a b := fun a b => by
    simp only [crossP, crossI, sc]; grind
  unfold cyc
  rw [← sumN_mulc]
  exact sumN_congr _ fun k _ => e _ _
theorem gcdE_sc (m : Nat) (a b : Pt) : gcdE (sc m a) (sc m b) = m * gcdE a b := by
  unfold gcdE sc
  simp only
  rw [← Int.mul_sub, ← Int.mul_sub, Int.natAbs_mul, Int.natAbs_mul, Int.natAbs_natCast, Nat.gcd_mul_left]
theorem onC_sc (m : Nat) (p : List Pt) : onC (p.map (sc m)) = m * onC p := by
  rw [onC_cyc, onC_cyc, cyc_map]
  unfold cyc
  rw [← sumN_mulc]
  refine sumN_congr _ fun k _ => ?_
  show ((gcdE (sc (m : Int) (nth p k)) (sc (m : Int) (nx p k)) : Nat) : Int) = (m : Int) * ((gcdE (nth p k) (nx p k) : Nat) : Int)
  rw [gcdE_sc, Int.natCast_mul]
theorem gcdE_le {a b : Pt} {N : Nat} (h1 : (b.1 - a.1).natAbs ≤ N) (h2 : (b.2 - a.2).natAbs ≤ N) : gcdE a b ≤ N := by
  unfold gcdE
  by_cases h : 0 < (b.1 - a.1).natAbs
  · exact Nat.le_trans (Nat.gcd_le_left _ h) h1
  · rw [show (b.1 - a.1).natAbs = 0 by omega, Nat.gcd_zero_left]; exact h2
theorem onC_le {p : List Pt} {N : Nat} (h : ∀ a ∈ p, ∀ b ∈ p, (b.1 - a.1).natAbs ≤ N ∧ (b.2 - a.2).natAbs ≤ N) : onC p ≤ (N : Int) * p.length := by
  unfold onC
  rw [← sumN_const]
  refine sumN_le _ fun k hk => ?_
  have := gcdE_le (h _ (nth_mem hk) _ (nx_mem hk)).1 (h _ (nth_mem hk) _ (nx_mem hk)).2
  omega

/-- a point in the interior of a scaled polygon lies on the inner side of some corner, in every direction -/
theorem in_sc {S : List Pt} (hS : Sr S) {m : Int} (hm : 0 < m) {x : Pt} (hx : InI (S.map (sc m)) x) {e : Pt} (he : hh e ≠ 0) : (∃ s ∈ S, m * cr e s < cr e x) ∧ ∃ s ∈ S, cr e x < m * cr e s := by
  constructor
  · obtain ⟨v, hv, -, -, h3⟩ := (hS.scale hm).corner he
    obtain ⟨s, hs, rfl⟩ := List.mem_map.1 hv
    have := h3 x hx
    rw [cr_scR] at this
    exact ⟨s, hs, this⟩
  · obtain ⟨v, hv, -, -, h3⟩ := (hS.scale hm).corner (e := vNeg e) (by rw [hh_vNeg]; omega)
    obtain ⟨s, hs, rfl⟩ := List.mem_map.1 hv
    have := h3 x hx
    rw [cr_vNeg, cr_vNeg, cr_scR] at this
    exact ⟨s, hs, by omega⟩

/-! counting -/
theorem sumN_swap (g : Nat → Nat → Int) (M : Nat) : ∀ N, sumN (fun i => sumN (fun c => g i c) M) N = sumN (fun c => sumN (fun i => g i c) N) M
  | 0 => by simp only [sumN]; exact (sumN_zero M fun _ _ => rfl).symm
  | N + 1 => by
    have : sumN (fun c => sumN (fun i => g i c) (N + 1)) M = sumN (fun c => sumN (fun i => g i c) N + g N c) M := rfl
    rw [this, sumN_plus, sumN, sumN_swap g M N]
theorem sumN_one {R : Nat → Prop} [DecidablePred R] : ∀ N, (∀ i j, i < N → j < N → R i → R j → i = j) → sumN (fun i => if R i then 1 else 0) N = if ∃ i, i < N ∧ R i then 1 else 0
  | 0, _ => by rw [sumN, if_neg (fun ⟨i, hi, _⟩ => absurd hi (Nat.not_lt_zero _))]
  | N + 1, h => by
    rw [sumN, sumN_one N (fun i j hi hj => h i j (by omega) (by omega))]
    by_cases hN : R N
    · rw [if_pos hN, if_neg (fun ⟨i, hi, hR⟩ => by have := h i N (by omega) (by omega) hR hN; omega), if_pos ⟨N, by omega, hN⟩]
      rfl
    · rw [if_neg hN]
      by_cases he : ∃ i, i < N ∧ R i
      · obtain ⟨i, hi, hR⟩ := he
        rw [if_pos ⟨i, hi, hR⟩, if_pos ⟨i, by omega, hR⟩]
        rfl
      · rw [if_neg he, if_neg (fun ⟨i, hi, hR⟩ => he ⟨i, by
          rcases Nat.lt_succ_iff_lt_or_eq.1 hi with h1 | rfl
          · exact h1
          · exact absurd hR hN, hR⟩)]
        rfl
open Classical in
theorem count_le (Q : Nat → Nat → Prop) [∀ i j, Decidable (Q i j)] (f : Nat → Nat → Nat) (N1 N2 M : Nat) (hf : ∀ i j, Q i j → f i j < M)
    (inj : ∀ i j i' j', i < N1 → i' < N1 → j < N2 → j' < N2 → Q i j → Q i' j' → f i j = f i' j' → i = i' ∧ j = j') :
    sumN (fun i => sumN (fun j => if Q i j then 1 else 0) N2) N1 ≤ M := by
  have e1 : ∀ i j, (if Q i j then (1 : Int) else 0) = sumN (fun c => if Q i j ∧ f i j = c then 1 else 0) M := fun i j => by
    rw [sumN_one M (fun c c' _ _ h h' => h.2.symm.trans h'.2)]
    by_cases h : Q i j
    · rw [if_pos h, if_pos ⟨f i j, hf i j h, h, rfl⟩]
    · rw [if_neg h, if_neg (fun ⟨c, _, h', _⟩ => h h')]
  have e2 : sumN (fun i => sumN (fun j => if Q i j then (1 : Int) else 0) N2) N1 = sumN (fun c => sumN (fun i => sumN (fun j => if Q i j ∧ f i j = c then 1 else 0) N2) N1) M := by
    refine Eq.trans (sumN_congr _ fun i _ => ?_) (sumN_swap (fun i c => sumN (fun j => if Q i j ∧ f i j = c then (1 : Int) else 0) N2) M N1)
    exact Eq.trans (sumN_congr _ fun j _ => e1 i j) (sumN_swap (fun j c => if Q i j ∧ f i j = c then (1 : Int) else 0) M N2)
  rw [e2]
  have e3 : sumN (fun c => sumN (fun i => sumN (fun j => if Q i j ∧ f i j = c then (1 : Int) else 0) N2) N1) M ≤ sumN (fun _ => 1) M := by
    refine sumN_le _ fun c _ => ?_
    have e4 : sumN (fun i => sumN (fun j => if Q i j ∧ f i j = c then (1 : Int) else 0) N2) N1 = sumN (fun i => if ∃ j, j < N2 ∧ Q i j ∧ f i j = c then (1 : Int) else 0) N1 := by
      refine sumN_congr _ fun i hi => ?_
      exact sumN_one N2 (fun j j' hj hj' h h' => (inj i j i j' hi hi hj hj' h.1 h'.1 (h.2.trans h'.2.symm)).2)
    rw [e4, sumN_one N1 (fun i i' hi hi' ⟨j, hj, h⟩ ⟨j', hj', h'⟩ => (inj i j i' j' hi hi' hj hj' h.1 h'.1 (h.2.trans h'.2.symm)).1)]
    split <;> omega
  rw [sumN_const] at e3
  omega

/-! the grid -/
theorem hasG_mk {A B D : Int} (hA : 0 < A) (hD : 0 < D) (k j : Int) : hasG (A, B, D) (A * k, B * k + D * j) = true := by
  simp only [hasG, Bool.and_eq_true, decide_eq_true_eq]
  refine ⟨Int.mul_tmod_right _ _, ?_⟩
  rw [Int.mul_tdiv_cancel_left _ (by omega)]
  rw [show B * k + D * j - k * B = D * j by rw [Int.mul_comm k B]; omega]
  exact Int.mul_tmod_right _ _

/-- no vector of an admissible grid makes the blank collide: a direction says so -/
theorem adm_sep {p : List Pt} (hb : blankF p = true) {A B D : Int} (hA : 0 < A) (hD : 0 < D) (hadm : admB p (A, B, D) = true) {k j : Int} (hne : (A * k, B * k + D * j) ≠ ((0, 0) : Pt))
    (h1 : -12 < A * k ∧ A * k < 12) (h2 : -12 < B * k + D * j ∧ B * k + D * j < 12) : ∃ e : Pt, hh e ≠ 0 ∧ ∀ u ∈ p, ∀ v ∈ p, cr e u + cr e (A * k, B * k + D * j) ≤ cr e v := by
  have hg := hasG_mk (B := B) hA hD k j
  generalize hl : ((A * k, B * k + D * j) : Pt) = t at *
  have t1 : t.1 = A * k := by rw [← hl]
  have t2 : t.2 = B * k + D * j := by rw [← hl]
  have htb : Bd2 900 t.1 t.2 := ⟨⟨by omega, by omega⟩, ⟨by omega, by omega⟩⟩
  have hno : hitB p t = false := by
    rcases Bool.eq_false_or_eq_true (hitB p t) with h | h
    · exfalso
      have hmem : t ∈ hits p := by
        simp only [hitsN, List.mem_filter, List.mem_map, List.mem_range]
        refine ⟨⟨25 * (t.1 + 12).toNat + (t.2 + 12).toNat, by omega, ?_⟩, h⟩
        rw [bx_at (by omega)]
        exact Prod.ext (by simp only; omega) (by simp only; omega)
      rw [admB, List.any_eq_true.2 ⟨t, hmem, hg⟩] at hadm
      cases hadm
    · exact h
  rw [hitB_eq hb htb] at hno
  have hp : (partedF p (p.map (vAdd t))).2 = true := by
    rcases Bool.eq_false_or_eq_true (partedF p (p.map (vAdd t))).2 with h | h
    · exact h
    · rw [h, decide_eq_true hne] at hno; cases hno
  obtain ⟨_, hq⟩ := move_blank hb htb
  have sp := valid_sr (blankF_spec hb).1
  have sq := valid_sr hq
  have h3 := sp.len
  have key : ∀ e, SepE p (p.map (vAdd t)) e → ∀ u ∈ p, ∀ v ∈ p, cr e u + cr e t ≤ cr e v := fun e he u hu v hv => by
    have := he v hv (vAdd t u) (List.mem_map.2 ⟨u, hu, rfl⟩)
    have e1 : cr e (vAdd t u) = cr e u + cr e t := by unfold cr vAdd; grind
    omega
  rcases (parted_sep (by omega) (by simp; omega)).1 hp with ⟨i, hi, hs⟩ | ⟨i, hi, hs⟩
  · exact ⟨_, sp.ne i hi, key _ hs⟩
  · refine ⟨_, ?_, key _ hs⟩
    rw [hh_vNeg]
    have := sq.ne i hi
    omega

end Go.Proofs.Ytjmklbkcpjmcaaa.V

namespace Go.Proofs.Ytjmklbkcpjmcaaa.V
open Go Go.RowKit Go.Proofs.Ytjmklbkcpjmcaaa.H Go.Proofs.Ytjmklbkcpjmcaaa.LL
set_option linter.unusedVariables false
set_option linter.unusedSimpArgs false

theorem off_eq {A B D : Int} (hA : 0 < A) (hD : 0 < D) {u v : Pt} (h : offF (A, B, D) u = offF (A, B, D) v) : ∃ k j : Int, u.1 - v.1 = A * k ∧ u.2 - v.2 = B * k + D * j := by
  simp only [offF, Prod.mk.injEq] at h
  obtain ⟨hx, hy⟩ := h
  have d1 := Int.mul_ediv_add_emod u.1 A
  have d2 := Int.mul_ediv_add_emod v.1 A
  have d3 := Int.mul_ediv_add_emod (u.2 - u.1 / A * B) D
  have d4 := Int.mul_ediv_add_emod (v.2 - v.1 / A * B) D
  refine ⟨u.1 / A - v.1 / A, (u.2 - u.1 / A * B) / D - (v.2 - v.1 / A * B) / D, ?_, ?_⟩
  · rw [Int.mul_sub]; omega
  · rw [Int.mul_sub, Int.mul_sub]
    have c1 : u.1 / A * B = B * (u.1 / A) := Int.mul_comm _ _
    have c2 : v.1 / A * B = B * (v.1 / A) := Int.mul_comm _ _
    omega

theorem lay_sep {p : List Pt} (hb : blankF p = true) {A B D : Int} (hA : 0 < A) (hD : 0 < D) (hadm : admB p (A, B, D) = true) {k j : Int} (hne : (A * k, B * k + D * j) ≠ ((0, 0) : Pt)) :
    ∃ e : Pt, hh e ≠ 0 ∧ ∀ u ∈ p, ∀ v ∈ p, cr e u + cr e (A * k, B * k + D * j) ≤ cr e v := by
  have c1 : ∀ w : Pt, cr (0, 1) w = -w.1 := fun w => by unfold cr; simp only; omega
  have c2 : ∀ w : Pt, cr (0, -1) w = w.1 := fun w => by unfold cr; simp only; omega
  have c3 : ∀ w : Pt, cr (-1, 0) w = -w.2 := fun w => by unfold cr; simp only; omega
  have c4 : ∀ w : Pt, cr (1, 0) w = w.2 := fun w => by unfold cr; simp only; omega
  by_cases h1 : -12 < A * k
  · by_cases h2 : A * k < 12
    · by_cases h3 : -12 < B * k + D * j
      · by_cases h4 : B * k + D * j < 12
        · exact adm_sep hb hA hD hadm hne ⟨h1, h2⟩ ⟨h3, h4⟩
        · refine ⟨(-1, 0), by decide, fun u hu v hv => ?_⟩
          have b1 := blank_bd hb hu
          have b2 := blank_bd hb hv
          rw [c3, c3, c3]
          simp only
          omega
      · refine ⟨(1, 0), by decide, fun u hu v hv => ?_⟩
        have b1 := blank_bd hb hu
        have b2 := blank_bd hb hv
        rw [c4, c4, c4]
        simp only
        omega
    · refine ⟨(0, 1), by decide, fun u hu v hv => ?_⟩
      have b1 := blank_bd hb hu
      have b2 := blank_bd hb hv
      rw [c1, c1, c1]
      simp only
      omega
  · refine ⟨(0, -1), by decide, fun u hu v hv => ?_⟩
    have b1 := blank_bd hb hu
    have b2 := blank_bd hb hv
    rw [c2, c2, c2]
    simp only
    omega

/-! order -/
def below (u v : Pt) : Prop := u.2 < v.2 ∨ u.2 = v.2 ∧ u.1 < v.1
theorem pls_sorted (p : List Pt) (x y : Int) : (pls p x y).Pairwise below := by
  unfold pls plN
  rw [List.pairwise_map]
  refine List.pairwise_lt_range.imp_of_mem fun {a b} ha hb hab => ?_
  have hb := List.mem_range.1 hb
  have hx : 0 < nxF p x := by
    rcases Nat.eq_zero_or_pos (nxF p x) with h0 | h0
    · rw [h0, Nat.mul_zero] at hb; omega
    · exact h0
  have h1 := Nat.div_add_mod a (nxF p x)
  have h2 := Nat.div_add_mod b (nxF p x)
  have h3 : a / nxF p x ≤ b / nxF p x := Nat.div_le_div_right (Nat.le_of_lt hab)
  unfold below plA
  simp only
  rcases Nat.lt_or_eq_of_le h3 with h4 | h4
  · left; omega
  · right
    rw [h4] at h1 ⊢
    omega
theorem cls_sorted (p : List Pt) (g : Gd) (x y : Int) (o : Pt) : (clsF g (pls p x y) o).Pairwise below := (pls_sorted p x y).filter _
theorem cls_nodup (p : List Pt) (g : Gd) (x y : Int) (o : Pt) : (clsF g (pls p x y) o).Nodup := (cls_sorted p g x y o).imp fun {a b} h e => by subst e; unfold below at h; omega
theorem nodup_inj {α : Type} {l : List α} (hn : l.Nodup) {i j : Nat} {hi : i < l.length} {hj : j < l.length} (h : l[i] = l[j]) : i = j := by
  rcases Nat.lt_trichotomy i j with h1 | h1 | h1
  · exact absurd h (List.pairwise_iff_getElem.1 hn i j hi hj h1)
  · exact h1
  · exact absurd h.symm (List.pairwise_iff_getElem.1 hn j i hj hi h1)
theorem nodup_le : ∀ {l1 l2 : List Pt}, l1.Nodup → (∀ v ∈ l1, v ∈ l2) → l1.length ≤ l2.length
  | [], _, _, _ => Nat.zero_le _
  | a :: l1, l2, hn, hs => by
    have ha := hs a List.mem_cons_self
    have hn' := List.nodup_cons.1 hn
    have h := nodup_le (l1 := l1) (l2 := l2.erase a) hn'.2 fun v hv => by
      refine (List.mem_erase_of_ne fun e => ?_).2 (hs v (List.mem_cons_of_mem _ hv))
      subst e
      exact hn'.1 hv
    rw [List.length_erase_of_mem ha] at h
    have := List.length_pos_of_mem ha
    rw [List.length_cons]
    omega

/-! no class has more -/
theorem lay_most {a b d : Int} (hg : goodG (a, b, d) = true) (p : List Pt) (x y : Int) (u : Pt) : (clsF (a, b, d) (pls p x y) (offF (a, b, d) u)).length ≤ (LayL p (a, b, d) x y).length := by
  have h1 := cell_idx hg u
  have h2 := idx_lt hg u
  have h3 := (bst_spec (cntF (a, b, d) (pls p x y)) ((a * d).toNat - 1)).2.1 (idxF (a, b, d) u) (by omega)
  unfold cntF at h3
  simp only at h3
  rw [h1] at h3
  exact h3
theorem lay_grow {a b d : Int} (hg : goodG (a, b, d) = true) (p : List Pt) {x y x' y' : Int} (hx : x ≤ x') (hy : y ≤ y') : (LayL p (a, b, d) x y).length ≤ (LayL p (a, b, d) x' y').length := by
  have h1 := (bst_spec (cntF (a, b, d) (pls p x y)) ((a * d).toNat - 1)).1
  have h3 := (bst_spec (cntF (a, b, d) (pls p x' y')) ((a * d).toNat - 1)).2.1 _ h1
  refine Nat.le_trans ?_ h3
  unfold cntF
  refine nodup_le (cls_nodup _ _ _ _ _) fun v hv => ?_
  unfold LayL at hv
  unfold clsF at hv ⊢
  rw [List.mem_filter] at hv ⊢
  refine ⟨?_, hv.2⟩
  have := pls_mem.1 hv.1
  exact pls_mem.2 (by omega)
theorem lay_same {a b d : Int} (hg : goodG (a, b, d) = true) (p : List Pt) (x y : Int) {u v : Pt} (hu : u ∈ LayL p (a, b, d) x y) (hv : v ∈ LayL p (a, b, d) x y) : ∃ k j : Int, u.1 - v.1 = a * k ∧ u.2 - v.2 = b * k + d * j := by
  obtain ⟨a1, a2, d1, d2, b1, b2⟩ := good_spec hg
  unfold LayL clsF at hu hv
  rw [List.mem_filter] at hu hv
  exact off_eq (by omega) (by omega) ((of_decide_eq_true hu.2).trans (of_decide_eq_true hv.2).symm)
theorem lay_in {a b d : Int} (hg : goodG (a, b, d) = true) (p : List Pt) (x y : Int) {u v : Pt} (hu : u ∈ LayL p (a, b, d) x y) (hv : v ∈ LayL p (a, b, d) x y) : hasG (a, b, d) (u.1 - v.1, u.2 - v.2) = true := by
  obtain ⟨a1, a2, d1, d2, b1, b2⟩ := good_spec hg
  obtain ⟨k, j, h1, h2⟩ := lay_same hg p x y hu hv
  rw [h1, h2]
  exact hasG_mk (by omega) (by omega) k j
theorem lay_free {a b d : Int} (hg : goodG (a, b, d) = true) {p : List Pt} (hb : blankF p = true) (hadm : admB p (a, b, d) = true) (x y : Int) {u v : Pt} (hu : u ∈ LayL p (a, b, d) x y) (hv : v ∈ LayL p (a, b, d) x y) (hne : u ≠ v) : collB p (u.1 - v.1, u.2 - v.2) = false := by
  have hG := lay_in hg p x y hu hv
  rcases Bool.eq_false_or_eq_true (collB p (u.1 - v.1, u.2 - v.2)) with h | h
  · exfalso
    have hin : inB (u.1 - v.1, u.2 - v.2) = true := by
      unfold collB at h
      rw [Bool.and_eq_true] at h
      exact h.1
    have hbd := inB_bd hin
    have hin2 := of_decide_eq_true hin
    have hne2 : ((u.1 - v.1, u.2 - v.2) : Pt) ≠ (0, 0) := fun e => hne (by
      simp only [Prod.mk.injEq] at e
      exact Prod.ext (by omega) (by omega))
    have hhit : hitB p (u.1 - v.1, u.2 - v.2) = true := by
      rw [hit_coll hb hbd, h, decide_eq_true hne2]; rfl
    generalize ht : ((u.1 - v.1, u.2 - v.2) : Pt) = t at *
    have hmem : t ∈ hits p := by
      simp only [hitsN, List.mem_filter, List.mem_map, List.mem_range]
      refine ⟨⟨25 * (t.1 + 12).toNat + (t.2 + 12).toNat, by omega, ?_⟩, hhit⟩
      rw [bx_at (by omega)]
      exact Prod.ext (by simp only; omega) (by simp only; omega)
    rw [admB, List.any_eq_true.2 ⟨t, hmem, hG⟩] at hadm
    cases hadm
  · exact h

/-! area -/
theorem sumN_rep (F : Nat → Int) {K : Nat} (hK : 0 < K) : ∀ N : Nat, sumN (fun i => F (i % K)) (N * K) = N * sumN F K
  | 0 => by rw [Nat.zero_mul]; simp [sumN]
  | N + 1 => by
    rw [Nat.succ_mul, sumN_split, sumN_rep F hK N]
    have : sumN (fun k => F ((N * K + k) % K)) K = sumN F K := sumN_congr _ fun k hk => by
      rw [Nat.mul_comm, Nat.mul_add_mod, Nat.mod_eq_of_lt hk]
    rw [this]
    push_cast
    rw [Int.add_mul, Int.one_mul]
theorem cI_nonneg (Q : List Pt) : 0 ≤ cI Q := by
  have h : ∀ (f : Nat → Int) n, (∀ k, k < n → 0 ≤ f k) → 0 ≤ sumN f n := fun f n hf => by
    have := sumN_le (f := fun _ => 0) (g := f) n hf
    rw [sumN_zero n (fun _ _ => rfl)] at this
    exact this
  refine h _ _ fun k _ => h _ _ fun i _ => ?_
  split <;> omega

theorem inI_box {p : List Pt} (hb : blankF p = true) {m : Int} (hm : 0 < m) {z : Pt} (hz : InI (p.map (sc m)) z) : m * X1 p < z.1 ∧ z.1 < m * X2 p ∧ m * Y1 p < z.2 ∧ z.2 < m * Y2 p := by
  have sp := valid_sr (blankF_spec hb).1
  have m0 : 0 ≤ m := by omega
  obtain ⟨⟨s1, hs1, a1⟩, s2, hs2, a2⟩ := in_sc sp hm hz (e := (0, -1)) (by decide)
  obtain ⟨⟨s3, hs3, a3⟩, s4, hs4, a4⟩ := in_sc sp hm hz (e := (1, 0)) (by decide)
  have c : ∀ w : Pt, cr (0, -1) w = w.1 := fun w => by unfold cr; simp only; omega
  have d : ∀ w : Pt, cr (1, 0) w = w.2 := fun w => by unfold cr; simp only; omega
  rw [c, c] at a1 a2
  rw [d, d] at a3 a4
  have b1 := Int.mul_le_mul_of_nonneg_left (box_in hs1).1 m0
  have b2 := Int.mul_le_mul_of_nonneg_left (box_in hs2).2.1 m0
  have b3 := Int.mul_le_mul_of_nonneg_left (box_in hs3).2.2.1 m0
  have b4 := Int.mul_le_mul_of_nonneg_left (box_in hs4).2.2.2 m0
  omega

/-- a point of a scaled translate lies inside the scaled sheet -/
theorem pt_in {p : List Pt} (hb : blankF p = true) {x y : Int} {v z : Pt} (hv : v ∈ pls p x y) (hz : InI (p.map (sc 41000)) z) : 1 ≤ z.1 + 41000 * v.1 ∧ z.1 + 41000 * v.1 ≤ 41000 * x - 1 ∧ 1 ≤ z.2 + 41000 * v.2 ∧ z.2 + 41000 * v.2 ≤ 41000 * y - 1 := by
  have h1 := inI_box hb (m := 41000) (by decide) hz
  have h2 := pls_mem.1 hv
  omega
theorem num_inj {W a b c d : Int} (ha : 0 ≤ a ∧ a < W) (hc : 0 ≤ c ∧ c < W) (h : a + W * b = c + W * d) : a = c ∧ b = d := by
  have h1 : (a + W * b) / W = b := by rw [Int.add_mul_ediv_left _ _ (by omega), Int.ediv_eq_zero_of_lt ha.1 ha.2, Int.zero_add]
  have h2 : (c + W * d) / W = d := by rw [Int.add_mul_ediv_left _ _ (by omega), Int.ediv_eq_zero_of_lt hc.1 hc.2, Int.zero_add]
  have h3 : b = d := by rw [← h1, ← h2, h]
  subst h3
  omega

def lnum (l : List Pt) (x y : Int) (i j : Nat) : Nat := (((j : Nat) : Int) - 499999 + 41000 * (nth l (i / 999999)).1 - 1 + (41000 * x - 1) * (((i % 999999 : Nat) : Int) - 499999 + 41000 * (nth l (i / 999999)).2 - 1)).toNat % ((41000 * x - 1) * (41000 * y - 1)).toNat
theorem lnum_eq {l : List Pt} {x y : Int} {i j : Nat} (h : 1 ≤ ((j : Nat) : Int) - 499999 + 41000 * (nth l (i / 999999)).1 ∧ ((j : Nat) : Int) - 499999 + 41000 * (nth l (i / 999999)).1 ≤ 41000 * x - 1 ∧
      1 ≤ ((i % 999999 : Nat) : Int) - 499999 + 41000 * (nth l (i / 999999)).2 ∧ ((i % 999999 : Nat) : Int) - 499999 + 41000 * (nth l (i / 999999)).2 ≤ 41000 * y - 1) :
    ((lnum l x y i j : Nat) : Int) = ((j : Nat) : Int) - 499999 + 41000 * (nth l (i / 999999)).1 - 1 + (41000 * x - 1) * (((i % 999999 : Nat) : Int) - 499999 + 41000 * (nth l (i / 999999)).2 - 1) := by
  unfold lnum
  generalize ((j : Nat) : Int) - 499999 + 41000 * (nth l (i / 999999)).1 = P at *
  generalize ((i % 999999 : Nat) : Int) - 499999 + 41000 * (nth l (i / 999999)).2 = R at *
  have h1 : 0 ≤ (41000 * x - 1) * (R - 1) := Int.mul_nonneg (by omega) (by omega)
  have h2 : (41000 * x - 1) * (R - 1) ≤ (41000 * x - 1) * (41000 * y - 1 - 1) := Int.mul_le_mul_of_nonneg_left (by omega) (by omega)
  have h3 : (41000 * x - 1) * (41000 * y - 1 - 1) = (41000 * x - 1) * (41000 * y - 1) - (41000 * x - 1) := by rw [Int.mul_sub (41000 * x - 1) (41000 * y - 1) 1, Int.mul_one]
  rw [h3] at h2
  generalize (41000 * x - 1) * (R - 1) = U at *
  generalize (41000 * x - 1) * (41000 * y - 1) = M at *
  rw [Nat.mod_eq_of_lt (by omega)]
  omega

theorem lay_count {p : List Pt} (hb : blankF p = true) {A B D : Int} (hA : 0 < A) (hD : 0 < D) (hadm : admB p (A, B, D) = true) {l : List Pt} {x y : Int} (hx : 1 ≤ x ∧ x ≤ 100) (hy : 1 ≤ y ∧ y ≤ 100) (hin : ∀ v ∈ l, v ∈ pls p x y)
    (hcl : ∀ u ∈ l, ∀ v ∈ l, ∃ k j : Int, u.1 - v.1 = A * k ∧ u.2 - v.2 = B * k + D * j) (hnd : l.Nodup) : (l.length : Int) * cI (p.map (sc 41000)) ≤ (41000 * x - 1) * (41000 * y - 1) := by
  have hM : 0 < (41000 * x - 1) * (41000 * y - 1) := Int.mul_pos (by omega) (by omega)
  have hMn : (((41000 * x - 1) * (41000 * y - 1)).toNat : Int) = (41000 * x - 1) * (41000 * y - 1) := by omega
  have hMp : 0 < ((41000 * x - 1) * (41000 * y - 1)).toNat := by omega
  have hi : ∀ i, i < l.length * 999999 → i / 999999 < l.length := fun i h => (Nat.div_lt_iff_lt_mul (by omega)).2 h
  have hcount := count_le (fun i j => InI (p.map (sc 41000)) ((j : Nat) - 499999, ((i % 999999 : Nat) : Int) - 499999)) (lnum l x y) (l.length * 999999) 999999 ((41000 * x - 1) * (41000 * y - 1)).toNat (fun i j _ => Nat.mod_lt _ hMp) (fun i j i' j' h1 h1' h2 h2' hI hI' he => by
      have hb1 := pt_in hb (hin _ (nth_mem (hi i h1))) hI
      have hb2 := pt_in hb (hin _ (nth_mem (hi i' h1'))) hI'
      have hn1 := lnum_eq (j := j) hb1
      have hn2 := lnum_eq (j := j') hb2
      rw [he] at hn1
      simp only at hb1 hb2
      have he2 := hn1.symm.trans hn2
      obtain ⟨e1, e2⟩ := num_inj (by omega) (by omega) he2
      have hsame : i / 999999 = i' / 999999 := by
        refine Classical.byContradiction fun hne => ?_
        have hu := nth_mem (hi i h1)
        have hv := nth_mem (hi i' h1')
        have huv : nth l (i / 999999) ≠ nth l (i' / 999999) := fun e => hne (by
          rw [nth_get (hi i h1), nth_get (hi i' h1')] at e
          exact nodup_inj hnd e)
        obtain ⟨k, q, g1, g2⟩ := hcl _ hv _ hu
        have hne2 : (A * k, B * k + D * q) ≠ ((0, 0) : Pt) := fun e => huv (by
          simp only [Prod.mk.injEq] at e
          exact Prod.ext (by omega) (by omega))
        obtain ⟨e, hee, hs⟩ := lay_sep hb hA hD hadm hne2
        have sp := valid_sr (blankF_spec hb).1
        obtain ⟨⟨s, hs1, a1⟩, _⟩ := in_sc sp (m := 41000) (by decide) hI hee
        obtain ⟨_, s', hs2, a2⟩ := in_sc sp (m := 41000) (by decide) hI' hee
        have h5 := hs s' hs2 s hs1
        have x1 : ((j : Nat) : Int) - 499999 - (((j' : Nat) : Int) - 499999) = 41000 * (A * k) := by omega
        have x2 : ((i % 999999 : Nat) : Int) - 499999 - (((i' % 999999 : Nat) : Int) - 499999) = 41000 * (B * k + D * q) := by omega
        generalize ((j : Nat) : Int) - 499999 = z1 at *
        generalize ((j' : Nat) : Int) - 499999 = z1' at *
        generalize ((i % 999999 : Nat) : Int) - 499999 = z2 at *
        generalize ((i' % 999999 : Nat) : Int) - 499999 = z2' at *
        have h7 : cr e (z1, z2) - cr e (z1', z2') = cr e (z1 - z1', z2 - z2') := by unfold cr; grind
        have h6 : cr e (z1, z2) - cr e (z1', z2') = 41000 * cr e (A * k, B * k + D * q) := by
          rw [h7, x1, x2]
          exact cr_scR 41000 e (A * k, B * k + D * q)
        omega
      rw [hsame] at e1 e2
      have m1 := Nat.div_add_mod i 999999
      have m2 := Nat.div_add_mod i' 999999
      rw [hsame] at m1
      omega)
  have hrep := sumN_rep (fun iy => sumN (fun j => if InI (p.map (sc 41000)) ((j : Nat) - 499999, ((iy : Nat) : Int) - 499999) then (1 : Int) else 0) 999999) (K := 999999) (by omega) l.length
  have h8 : (l.length : Int) * cI (p.map (sc 41000)) = sumN (fun i => sumN (fun j => if InI (p.map (sc 41000)) ((j : Nat) - 499999, ((i % 999999 : Nat) : Int) - 499999) then (1 : Int) else 0) 999999) (l.length * 999999) := hrep.symm
  rw [h8, ← hMn]
  exact hcount

theorem cC_nonneg (Q : List Pt) : 0 ≤ cC Q := by
  have h : ∀ (f : Nat → Int) n, (∀ k, k < n → 0 ≤ f k) → 0 ≤ sumN f n := fun f n hf => by
    have := sumN_le (f := fun _ => 0) (g := f) n hf
    rw [sumN_zero n (fun _ _ => rfl)] at this
    exact this
  refine h _ _ fun k _ => h _ _ fun i _ => ?_
  split <;> omega
theorem area_ge {p : List Pt} (hb : blankF p = true) : -2 ≤ areaC p := by
  have hpk := pick (valid_sr (blankF_spec hb).1) (fun s hs => by
    have := blank_bd hb hs
    exact ⟨⟨by omega, by omega⟩, ⟨by omega, by omega⟩⟩)
  have h1 := cC_nonneg p
  have h2 := cI_nonneg p
  omega
theorem lay_area {p : List Pt} (hb : blankF p = true) {A B D : Int} (hA : 0 < A) (hD : 0 < D) (hadm : admB p (A, B, D) = true) {l : List Pt} {x y : Int} (hx : 1 ≤ x ∧ x ≤ 100) (hy : 1 ≤ y ∧ y ≤ 100) (hin : ∀ v ∈ l, v ∈ pls p x y)
    (hcl : ∀ u ∈ l, ∀ v ∈ l, ∃ k j : Int, u.1 - v.1 = A * k ∧ u.2 - v.2 = B * k + D * j) (hnd : l.Nodup) (hlen : l.length ≤ 10201) : (l.length : Int) * areaC p ≤ 2 * (x * y) := by
  have hc := lay_count hb hA hD hadm hx hy hin hcl hnd
  have hv := (blankF_spec hb).1
  have sp := valid_sr hv
  have hbb : ∀ s ∈ p, 0 ≤ s.1 ∧ s.1 ≤ 12 ∧ 0 ≤ s.2 ∧ s.2 ≤ 12 := fun s hs => blank_bd hb hs
  have hpk := (pick (sp.scale (m := 41000) (by decide)) (fun v hv => by
    obtain ⟨s, hs, rfl⟩ := List.mem_map.1 hv
    have := hbb s hs
    exact ⟨⟨by simp only [sc]; omega, by simp only [sc]; omega⟩, ⟨by simp only [sc]; omega, by simp only [sc]; omega⟩⟩)).2
  have hpk0 := (pick sp (fun s hs => by
    have := hbb s hs
    exact ⟨⟨by omega, by omega⟩, ⟨by omega, by omega⟩⟩)).2
  have hn0 := cI_nonneg p
  have ha := areaC_sc 41000 p
  have ho : onC (p.map (sc 41000)) = 41000 * onC p := onC_sc 41000 p
  clear hin hcl hnd
  generalize cI (p.map (sc 41000)) = I at *
  generalize areaC (p.map (sc 41000)) = a2 at *
  generalize onC (p.map (sc 41000)) = o2 at *
  generalize cI p = I0 at *
  generalize onC p = o0 at *
  generalize areaC p = a0 at *
  have h2 : 1680959000 * a0 - 81998 ≤ 2 * I := by omega
  have hN : (0 : Int) ≤ l.length := by omega
  have h3 := Int.mul_le_mul_of_nonneg_left h2 hN
  have e1 : (l.length : Int) * (1680959000 * a0 - 81998) = 1680959000 * ((l.length : Int) * a0) - 81998 * l.length := by
    rw [Int.mul_sub, Int.mul_left_comm, Int.mul_comm (l.length : Int) 81998]
  have e2 : (l.length : Int) * (2 * I) = 2 * ((l.length : Int) * I) := Int.mul_left_comm _ _ _
  have e3 : (41000 * x - 1) * (41000 * y - 1) = 1681000000 * (x * y) - 41000 * x - 41000 * y + 1 := by grind
  rw [e1, e2] at h3
  rw [e3] at hc
  have h4 : x * y ≤ 100 * 100 := Int.mul_le_mul hx.2 hy.2 (by omega) (by omega)
  have h5 : 0 ≤ x * y := Int.mul_nonneg (by omega) (by omega)
  omega

end Go.Proofs.Ytjmklbkcpjmcaaa.V
