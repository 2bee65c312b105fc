/-
  Polygons, plainly: a list is its own hull exactly if its edges are sorted by angle.
-/
import Derived.Test.YtoghphikfkdkmaaG3
namespace Go.Proofs.Ytoghphikfkdkmaa.V
open Go Go.RowKit Go.Proofs.Ytoghphikfkdkmaa.H
set_option linter.unusedVariables false
set_option linter.unusedSimpArgs false

/-- vertices a .. a + k, the last one on top -/
def rseg (p : List Pt) (a : Nat) : Nat → List Pt
  | 0 => [vt p a]
  | k + 1 => vt p (a + k + 1) :: rseg p a k

theorem rseg_len (p : List Pt) (a : Nat) : ∀ k, (rseg p a k).length = k + 1
  | 0 => rfl
  | k + 1 => by rw [rseg, List.length_cons, rseg_len p a k]
theorem rseg_head (p : List Pt) (a : Nat) : ∀ k, (rseg p a k).head? = some (vt p (a + k))
  | 0 => rfl
  | k + 1 => rfl
theorem rseg_last (p : List Pt) (a : Nat) : ∀ k, (rseg p a k).getLast? = some (vt p a)
  | 0 => rfl
  | k + 1 => by
    have := rseg_last p a k
    rw [rseg, List.getLast?_cons, this]; rfl
theorem rseg_mem (p : List Pt) (a : Nat) {x : Pt} : ∀ k, x ∈ rseg p a k ↔ ∃ i, i ≤ k ∧ x = vt p (a + i)
  | 0 => by
    simp only [rseg, List.mem_singleton]
    refine ⟨fun h => ⟨0, Nat.le_refl _, h⟩, fun ⟨i, h1, h2⟩ => ?_⟩
    have : i = 0 := by omega
    subst this; exact h2
  | k + 1 => by
    rw [rseg, List.mem_cons, rseg_mem p a k]
    constructor
    · rintro (h | ⟨i, h1, h2⟩)
      · exact ⟨k + 1, Nat.le_refl _, h⟩
      · exact ⟨i, by omega, h2⟩
    · rintro ⟨i, h1, h2⟩
      rcases Nat.lt_or_eq_of_le h1 with h | h
      · exact .inr ⟨i, by omega, h2⟩
      · subst h; exact .inl h2
theorem rseg_rev (p : List Pt) (a : Nat) : ∀ k, (rseg p a k).reverse = (List.range (k + 1)).map (fun i => vt p (a + i))
  | 0 => by simp [rseg, List.range_succ]
  | k + 1 => by rw [rseg, List.reverse_cons, rseg_rev p a k, List.range_succ (n := k + 1), List.map_append]; rfl
theorem rseg_lt (p : List Pt) (a : Nat) : ∀ k, LT (rseg p a k) ↔ ∀ i, i + 2 ≤ k → 0 < trn (vt p (a + i)) (vt p (a + i + 1)) (vt p (a + i + 2))
  | 0 => ⟨fun _ i h => by omega, fun _ => trivial⟩
  | 1 => ⟨fun _ i h => by omega, fun _ => trivial⟩
  | k + 2 => by
    have ih := rseg_lt p a (k + 1)
    have e : rseg p a (k + 2) = vt p (a + k + 2) :: rseg p a (k + 1) := rfl
    rw [e]
    cases k with
    | zero =>
      constructor
      · intro h i hi
        have : i = 0 := by omega
        subst this; exact h.1
      · intro h; exact ⟨h 0 (by omega), trivial⟩
    | succ k =>
      constructor
      · intro h i hi
        rcases Nat.lt_or_eq_of_le hi with h1 | h1
        · exact ih.1 h.2 i (by omega)
        · have : i = k + 1 := by omega
          subst this; exact h.1
      · intro h; exact ⟨h (k + 1) (by omega), ih.2 fun i hi => h i (by omega)⟩
theorem rseg_lf (p : List Pt) (a : Nat) (x : Pt) : ∀ k, Lf x (rseg p a k) ↔ ∀ i, i < k → 0 ≤ trn (vt p (a + i)) (vt p (a + i + 1)) x
  | 0 => ⟨fun _ i h => by omega, fun _ => trivial⟩
  | k + 1 => by
    have ih := rseg_lf p a x k
    cases k with
    | zero =>
      constructor
      · intro h i hi
        have : i = 0 := by omega
        subst this; exact h.1
      · intro h; exact ⟨h 0 (by omega), trivial⟩
    | succ k =>
      constructor
      · intro h i hi
        rcases Nat.lt_or_eq_of_le (Nat.le_of_lt_succ hi) with h1 | h1
        · exact ih.1 h.2 i h1
        · subst h1; exact h.1
      · intro h; exact ⟨h (k + 1) (by omega), ih.2 fun i hi => h i (by omega)⟩
theorem rseg_dec (p : List Pt) (a : Nat) : ∀ k, Dec (rseg p a k) ↔ ∀ i, i < k → hh (vt p (a + i)) < hh (vt p (a + i + 1))
  | 0 => ⟨fun _ i h => by omega, fun _ => List.pairwise_singleton _ _⟩
  | k + 1 => by
    have ih := rseg_dec p a k
    have e : Dec (rseg p a (k + 1)) ↔ (∀ y ∈ rseg p a k, hh y < hh (vt p (a + k + 1))) ∧ Dec (rseg p a k) := by
      unfold Dec; rw [rseg, List.pairwise_cons]
    rw [e, ih]
    constructor
    · rintro ⟨h1, h2⟩ i hi
      rcases Nat.lt_or_eq_of_le (Nat.le_of_lt_succ hi) with h3 | h3
      · exact h2 i h3
      · subst h3; exact h1 _ ((rseg_mem p a i).2 ⟨i, Nat.le_refl _, rfl⟩)
    · intro h
      refine ⟨fun y hy => ?_, fun i hi => h i (by omega)⟩
      obtain ⟨i, hi, rfl⟩ := (rseg_mem p a k).1 hy
      exact risesS (G := fun i => hh (vt p (a + i))) (a := i) (k + 1) (by omega) (fun m h3 h4 => h m h4)
theorem rseg_eq {p R : List Pt} {a k : Nat} (hl : R.length = k + 1) (h : ∀ i, i ≤ k → R.reverse[i]? = some (vt p (a + i))) : R = rseg p a k := by
  have : R.reverse = (rseg p a k).reverse := by
    rw [rseg_rev]
    apply List.ext_getElem? 
    intro i
    rcases Nat.lt_or_ge i (k + 1) with h1 | h1
    · rw [h i (by omega)]; simp [h1]
    · rw [List.getElem?_eq_none (by simp; omega), List.getElem?_eq_none (by simp; omega)]
  simpa using congrArg List.reverse this

theorem list_vt (p : List Pt) : p = (List.range p.length).map (vt p) := by
  apply List.ext_getElem?
  intro i
  rcases Nat.lt_or_ge i p.length with h | h
  · rw [List.getElem?_eq_getElem h]; simp [h, vt_lt h, nth_get h]
  · rw [List.getElem?_eq_none h, List.getElem?_eq_none (by simpa using h)]

/-- the vertices in order are the two chains -/
theorem rseg_join (p : List Pt) {m : Nat} (h0 : 0 < m) (hm : m < p.length) : (rseg p 0 m).tail.reverse ++ (rseg p m (p.length - m)).tail.reverse = p := by
  obtain ⟨m', rfl⟩ : ∃ m', m = m' + 1 := ⟨m - 1, by omega⟩
  obtain ⟨d', hd⟩ : ∃ d', p.length - (m' + 1) = d' + 1 := ⟨p.length - (m' + 1) - 1, by omega⟩
  rw [hd, rseg, rseg, List.tail_cons, List.tail_cons, rseg_rev, rseg_rev]
  conv => rhs; rw [list_vt p]
  have : p.length = (m' + 1) + (d' + 1) := by omega
  rw [this, List.range_add (n := m' + 1) (m := d' + 1), List.map_append, List.map_map]
  have e : (List.range (m' + 1)).map (fun i => vt p (0 + i)) = (List.range (m' + 1)).map (vt p) := List.map_congr_left fun i _ => by rw [Nat.zero_add]
  rw [e]; rfl

theorem mem_vt {p : List Pt} {x : Pt} (h : x ∈ p) : ∃ i, i < p.length ∧ x = vt p i := by
  obtain ⟨i, hi, rfl⟩ := List.getElem_of_mem h
  exact ⟨i, hi, by rw [vt_lt hi, nth_get hi]⟩
theorem vt_mem {p : List Pt} (h : 0 < p.length) (k : Nat) : vt p k ∈ p := nth_mem (Nat.mod_lt _ h)

/-! from polygons to hulls -/
theorem trn_vNegG (a b c : Pt) : trn (vNeg a) (vNeg b) (vNeg c) = trn a b c := by
  rw [trn_cr, trn_cr]; unfold cr sb vNeg; grind
theorem hh_vNeg (a : Pt) : hh (vNeg a) = - hh a := by unfold hh vNeg; simp only; omega
theorem vNeg_vNeg (a : Pt) : vNeg (vNeg a) = a := by unfold vNeg; exact Prod.ext (by simp only; omega) (by simp only; omega)
theorem popR_neg (v : Pt) : ∀ l : List Pt, popR (vNeg v) (l.map vNeg) = (popR v l).map vNeg
  | [] => rfl
  | [x] => rfl
  | b :: a :: r => by
    have ih := popR_neg v (a :: r)
    simp only [List.map_cons] at ih ⊢
    unfold popR
    rw [trn_vNegG]
    by_cases h : trn a b v ≤ 0
    · rw [if_pos h, if_pos h]; exact ih
    · rw [if_neg h, if_neg h]; rfl
theorem chainR_neg : ∀ (l acc : List Pt), chainR (acc.map vNeg) (l.map vNeg) = (chainR acc l).map vNeg
  | [], acc => rfl
  | v :: l, acc => by
    have ih := chainR_neg l (v :: popR v acc)
    simp only [List.map_cons] at ih
    rw [List.map_cons, chainR, chainR, popR_neg, ih]
theorem LT_neg : ∀ {l : List Pt}, LT (l.map vNeg) ↔ LT l
  | [] => Iff.rfl
  | [a] => Iff.rfl
  | [a, b] => Iff.rfl
  | c :: b :: a :: r => by
    have ih := LT_neg (l := b :: a :: r)
    simp only [List.map_cons] at ih
    simp only [List.map_cons, LT, trn_vNegG]
    exact and_congr Iff.rfl ih
theorem Lf_neg {x : Pt} : ∀ {l : List Pt}, Lf (vNeg x) (l.map vNeg) ↔ Lf x l
  | [] => Iff.rfl
  | [a] => Iff.rfl
  | b :: a :: r => by
    have ih := Lf_neg (x := x) (l := a :: r)
    simp only [List.map_cons] at ih
    simp only [List.map_cons, Lf, trn_vNegG]
    exact and_congr Iff.rfl ih

theorem incr_head {L : List Pt} (h : L.Pairwise (fun a b => hh a < hh b)) {x y : Pt} (hx : L.head? = some x) (hy : y ∈ L) (hlow : ∀ z ∈ L, z = y ∨ hh y < hh z) : x = y := by
  cases L with
  | nil => cases hx
  | cons a l =>
    simp only [List.head?_cons, Option.some.injEq] at hx
    subst hx
    rcases List.mem_cons.1 hy with rfl | hy
    · rfl
    · have := (List.pairwise_cons.1 h).1 y hy
      rcases hlow a (by simp) with h1 | h1
      · exact h1
      · omega

theorem chain_eq {L R : List Pt} (h : L.Pairwise (fun a b => hh a < hh b)) (hne : L ≠ []) (hd : Dec R) (hl : LT R) (hmem : ∀ x ∈ R, x ∈ L) (hhead : R.head? = L.getLast?) (hlast : R.getLast? = L.head?) (hleft : ∀ x ∈ L, Lf x R) : chainR [] L = R := by
  have hsub := chainR_sub L []
  rw [List.append_nil] at hsub
  have hrev : Dec L.reverse := by unfold Dec; rw [List.pairwise_reverse]; exact h
  have hc : ∀ x ∈ chainR [] L, x ∈ L := fun x hx => by
    have := hsub.subset hx
    simpa using this
  refine chain_unique _ R (hrev.sub hsub) hd (chainR_LT L [] trivial) hl ?_ ?_ ?_ (fun x hx => chain_left h x (hmem x hx)) (fun x hx => hleft x (hc x hx))
  · have := chainR_ne L [] (by have := List.length_pos_iff.2 hne; simpa using this)
    intro e; rw [e] at this; cases this
  · obtain ⟨l, v, e⟩ : ∃ l v, L = l ++ [v] := ⟨L.dropLast, L.getLast hne, (List.dropLast_concat_getLast hne).symm⟩
    rw [hhead, e, chainR_head]; simp
  · cases L with
    | nil => exact absurd rfl hne
    | cons v l => rw [chainR_last0, hlast]; rfl

/-- the last vertex of the rising chain -/
theorem Sr.top {p : List Pt} (h : Sr p) : ∃ m, 0 < m ∧ m < p.length ∧ (∀ i, i < m → 0 < hh (E p i)) ∧ ∀ i, m ≤ i → i < p.length → hh (E p i) < 0 := by
  have hl := h.len
  have h0 : 0 < hh (E p 0) := by
    have := h.low 1 (by omega) (by omega)
    have e := hh_step p 0
    rw [vt_lt (by omega), vt_lt (by omega)] at e
    simp only [Nat.zero_add] at e
    omega
  have hn : hh (E p (p.length - 1)) < 0 := by
    have := h.low (p.length - 1) (by omega) (by omega)
    have e := hh_step p (p.length - 1)
    rw [show p.length - 1 + 1 = p.length by omega, vt_n, vt_lt (by omega), vt_lt (by omega)] at e
    omega
  have key : ∀ k, k ≤ p.length → (∀ i, i < k → 0 < hh (E p i)) ∨ ∃ m, m < k ∧ (∀ i, i < m → 0 < hh (E p i)) ∧ hh (E p m) < 0 := by
    intro k
    induction k with
    | zero => exact fun _ => .inl fun i hi => by omega
    | succ k ih =>
      intro hk
      rcases ih (by omega) with h1 | ⟨m, h1, h2, h3⟩
      · rcases Int.lt_or_gt_of_ne (h.ne k (by omega)) with h2 | h2
        · exact .inr ⟨k, by omega, h1, h2⟩
        · refine .inl fun i hi => ?_
          rcases Nat.lt_or_eq_of_le (Nat.le_of_lt_succ hi) with h3 | rfl
          · exact h1 i h3
          · exact h2
      · exact .inr ⟨m, by omega, h2, h3⟩
  rcases key p.length (Nat.le_refl _) with h1 | ⟨m, h1, h2, h3⟩
  · have := h1 (p.length - 1) (by omega); omega
  · refine ⟨m, ?_, h1, h2, fun i h4 h5 => h.stays h4 h5 h3⟩
    rcases Nat.eq_zero_or_pos m with rfl | h4
    · omega
    · exact h4

theorem dd_id : ∀ {l : List Pt}, l.Pairwise (fun a b => a ≠ b) → dd l = l
  | [], _ => rfl
  | [x], _ => rfl
  | x :: y :: l, h => by
    rw [dd, if_neg ((List.pairwise_cons.1 h).1 y (by simp)), dd_id (List.pairwise_cons.1 h).2]

theorem lt2_hh {a b : Pt} (h1 : -1000000 < a.1 - b.1) (h2 : a.1 - b.1 < 1000000) : lt2 a b ↔ hh a < hh b := by
  unfold lt2 hh; omega

theorem Sr.nodup {p : List Pt} (h : Sr p) : p.Nodup := by
  have hl := h.len
  obtain ⟨m, m0, mn, hu, hd⟩ := h.top
  have hcv := h.cv
  unfold List.Nodup
  rw [List.pairwise_iff_getElem]
  intro i j hi hj hij e
  rw [← nth_get, ← nth_get] at e
  -- the edge that leaves j: i does not lie on it, but j does
  by_cases h1 : i = (j + 1) % p.length
  · have h2 := hcv.turn hj
    have e2 : E p j = (0, 0) := by
      unfold E; rw [vt_nx, vt_lt hj]; unfold nx; rw [← h1, e]; unfold sb; simp
    rw [e2] at h2; unfold cr at h2; simp at h2
  · have h2 := hcv.left j i hj (by omega) (by omega) h1
    rw [side_E hj, e, vt_lt hj] at h2
    omega

/-- a polygon is its own hull -/
theorem Sr.hull {p : List Pt} (h : Sr p) (hb : Near p) : hullF p = p := by
  have hl := h.len
  obtain ⟨m, m0, mn, hu, hd⟩ := h.top
  have hcv := h.cv
  have hmemL : ∀ x, x ∈ V.srt p ↔ x ∈ p := fun x => (srt_perm p).mem_iff
  have hnd : (V.srt p).Nodup := (srt_perm p).nodup_iff.2 h.nodup
  have hne : (V.srt p).Pairwise (fun a b => a ≠ b) := hnd
  have hinc : (V.srt p).Pairwise (fun a b => hh a < hh b) := by
    have h1 := List.Pairwise.and (srt_sorted p) hne
    refine h1.imp_of_mem fun {a b} ha hb' h2 => ?_
    have hn := hb a ((hmemL a).1 ha) b ((hmemL b).1 hb')
    rw [lt2_hh (by omega) (by omega)] at h2
    have := (lt2_hh hn.1 hn.2).1
    rcases Int.lt_trichotomy (hh a) (hh b) with h3 | h3 | h3
    · exact h3
    · exact absurd (by rw [hh_sb]; omega) (ne_of_hh h2.2 hn.1 hn.2)
    · omega
  have hlen : (V.srt p).length = p.length := (srt_perm p).length_eq
  have hnil : V.srt p ≠ [] := fun e => by rw [e] at hlen; simp at hlen; omega
  have vp : ∀ k, vt p k ∈ p := vt_mem (by omega)
  have hside : ∀ k, k < p.length → ∀ x ∈ p, 0 ≤ trn (vt p k) (vt p (k + 1)) x := fun k hk x hx => by
    obtain ⟨j, hj, rfl⟩ := mem_vt hx
    have e : trn (vt p k) (vt p (k + 1)) (vt p j) = side p (vt p j) k := by unfold side; rw [vt_nx, vt_lt hk]
    rw [e]
    by_cases h3 : j = k
    · subst h3; rw [side_E hj]; omega
    by_cases h4 : j = (k + 1) % p.length
    · have e2 : vt p j = vt p (k + 1) := by unfold vt; rw [h4, Nat.mod_mod]
      rw [side_E hk, e2]
      have : cr (E p k) (E p k) = 0 := cr_self _
      have e3 : cr (E p k) (E p k) = cr (E p k) (vt p (k + 1)) - cr (E p k) (vt p k) := by
        conv => lhs; arg 2; unfold E
        rw [cr_sb]
      omega
    · rw [vt_lt hj]; exact Int.le_of_lt (hcv.left k j hk hj h3 h4)
  have hturn : ∀ k, k + 1 < p.length → 0 < trn (vt p k) (vt p (k + 1)) (vt p (k + 2)) := fun k hk => by
    have t := hcv.turn (k := k) (by omega)
    rw [Nat.mod_eq_of_lt hk] at t
    rw [trn_cr]
    have e : sb (vt p (k + 2)) (vt p k) = ad (E p k) (E p (k + 1)) := by
      unfold E sb ad
      rw [show k + 2 = k + 1 + 1 from rfl]
      exact Prod.ext (by simp only; omega) (by simp only; omega)
    rw [e, cr_ad]
    have : cr (sb (vt p (k + 1)) (vt p k)) (E p k) = 0 := cr_self _
    have e5 : sb (vt p (k + 1)) (vt p k) = E p k := rfl
    rw [e5] at this ⊢
    omega
  -- the highest vertex
  have hhigh : ∀ x ∈ p, x = vt p m ∨ hh x < hh (vt p m) := fun x hx => by
    obtain ⟨j, hj, rfl⟩ := mem_vt hx
    rcases Nat.lt_trichotomy j m with h1 | h1 | h1
    · exact .inr (risesS (G := fun i => hh (vt p i)) m h1 (fun i h3 h4 => by have := hh_step p i; have := hu i h4; omega))
    · exact .inl (by rw [h1])
    · exact .inr (fallsS (G := fun i => hh (vt p i)) (a := m) j h1 (fun i h3 h4 => by have := hh_step p i; have := hd i h3 (by omega); omega))
  have hlow : ∀ x ∈ p, x = vt p 0 ∨ hh (vt p 0) < hh x := fun x hx => by
    obtain ⟨j, hj, rfl⟩ := mem_vt hx
    rcases Nat.eq_zero_or_pos j with h1 | h1
    · exact .inl (by rw [h1])
    · have := h.low j h1 hj
      rw [← vt_lt hj, ← vt_lt (by omega : 0 < p.length)] at this
      exact .inr this
  have hLhead : (V.srt p).head? = some (vt p 0) := by
    obtain ⟨x, l, e⟩ := List.exists_cons_of_ne_nil hnil
    have e1 : (V.srt p).head? = some x := by rw [e]; rfl
    rw [e1, incr_head hinc e1 ((hmemL _).2 (vp 0)) (fun z hz => hlow z ((hmemL z).1 hz))]
  have hincN : ((V.srt p).reverse.map vNeg).Pairwise (fun a b => hh a < hh b) := by
    rw [List.pairwise_map, List.pairwise_reverse]
    exact hinc.imp fun h1 => by rw [hh_vNeg, hh_vNeg]; omega
  have hLlast : (V.srt p).getLast? = some (vt p m) := by
    have e0 : ((V.srt p).reverse.map vNeg).head? = (V.srt p).getLast?.map vNeg := by rw [List.head?_map, List.head?_reverse]
    obtain ⟨x, hx⟩ : ∃ x, (V.srt p).getLast? = some x := ⟨_, List.getLast?_eq_some_getLast hnil⟩
    rw [hx] at e0
    have := incr_head hincN e0 (y := vNeg (vt p m)) (List.mem_map.2 ⟨_, by simpa using (hmemL _).2 (vp m), rfl⟩) (fun z hz => by
      obtain ⟨u, hu', rfl⟩ := List.mem_map.1 hz
      rcases hhigh u ((hmemL u).1 (by simpa using hu')) with h1 | h1
      · exact .inl (by rw [h1])
      · exact .inr (by rw [hh_vNeg, hh_vNeg]; omega))
    have := congrArg vNeg this
    rw [vNeg_vNeg, vNeg_vNeg] at this
    rw [hx, this]
  -- the two chains
  have C1 : chainR [] (V.srt p) = rseg p 0 m := by
    refine chain_eq hinc hnil ((rseg_dec p 0 m).2 fun i hi => ?_) ((rseg_lt p 0 m).2 fun i hi => ?_) (fun x hx => ?_) ?_ ?_ (fun x hx => (rseg_lf p 0 x m).2 fun i hi => ?_)
    · have := hh_step p i; have := hu i hi; rw [Nat.zero_add]; omega
    · rw [Nat.zero_add]; exact hturn i (by omega)
    · obtain ⟨i, hi, rfl⟩ := (rseg_mem p 0 m).1 hx
      exact (hmemL _).2 (vp _)
    · rw [rseg_head, hLlast, Nat.zero_add]
    · rw [rseg_last, hLhead]
    · rw [Nat.zero_add]; exact hside i (by omega) x ((hmemL x).1 hx)
  have hnp : vt p (m + (p.length - m)) = vt p 0 := by rw [show m + (p.length - m) = p.length by omega, vt_n]
  have C2 : chainR [] (V.srt p).reverse = rseg p m (p.length - m) := by
    have : chainR [] ((V.srt p).reverse.map vNeg) = (rseg p m (p.length - m)).map vNeg := by
      refine chain_eq hincN (by simpa using hnil) ?_ (LT_neg.2 ((rseg_lt p m _).2 fun i hi => ?_)) (fun x hx => ?_) ?_ ?_ (fun x hx => ?_)
      · unfold Dec
        rw [List.pairwise_map]
        have key : ∀ k, k ≤ p.length - m → (rseg p m k).Pairwise (fun a b => hh (vNeg b) < hh (vNeg a)) := by
          intro k
          induction k with
          | zero => exact fun _ => List.pairwise_singleton _ _
          | succ k ih =>
            intro hk
            rw [rseg, List.pairwise_cons]
            refine ⟨fun y hy => ?_, ih (by omega)⟩
            obtain ⟨i, hi, rfl⟩ := (rseg_mem p m k).1 hy
            rw [hh_vNeg, hh_vNeg]
            have := fallsS (G := fun i => hh (vt p (m + i))) (a := i) (k + 1) (by omega) (fun i h3 h4 => by
              have := hh_step p (m + i); have := hd (m + i) (by omega) (by omega); rw [← Nat.add_assoc]; omega)
            have this2 : hh (vt p (m + (k + 1))) < hh (vt p (m + i)) := this
            rw [← Nat.add_assoc] at this2
            omega
        exact key _ (Nat.le_refl _)
      · exact hturn (m + i) (by omega)
      · obtain ⟨y, hy, rfl⟩ := List.mem_map.1 hx
        obtain ⟨i, hi, rfl⟩ := (rseg_mem p m _).1 hy
        exact List.mem_map.2 ⟨_, by simpa using (hmemL _).2 (vp _), rfl⟩
      · rw [List.head?_map, rseg_head, hnp, List.getLast?_map, List.getLast?_reverse, hLhead]
      · rw [List.getLast?_map, rseg_last, List.head?_map, List.head?_reverse, hLlast]
      · obtain ⟨y, hy, rfl⟩ := List.mem_map.1 hx
        refine Lf_neg.2 ((rseg_lf p m y _).2 fun i hi => hside (m + i) (by omega) y ((hmemL y).1 (by simpa using hy)))
    have e := chainR_neg (V.srt p).reverse []
    rw [List.map_nil, this] at e
    have := congrArg (List.map vNeg) e
    simp only [List.map_map] at this
    have idm : ∀ l : List Pt, l.map (vNeg ∘ vNeg) = l := fun l => by
      conv => rhs; rw [← List.map_id l]
      exact List.map_congr_left fun x _ => vNeg_vNeg x
    rw [idm, idm] at this
    exact this.symm
  unfold hullF hullP
  rw [dd_id hne, if_neg (by omega), C1, C2]
  exact rseg_join p m0 mn

end Go.Proofs.Ytoghphikfkdkmaa.V
