/-
  Polygons, plainly: sums of nested polygons; directions that separate; the interior of a sum.
-/
import Derived.Test.YtoghphikfkdkmaaG7
import Derived.Test.YtoghphikfkdkmaaM4
namespace Go.Proofs.Ytoghphikfkdkmaa.V
open Go Go.RowKit Go.Proofs.Ytoghphikfkdkmaa.H
set_option linter.unusedVariables false
set_option linter.unusedSimpArgs false

/-- a corner of a sum is the sum of the corners -/
theorem SumSpec.corner {p q S : List Pt} (h : SumSpec p q S) (hp : Sr p) (hq : Sr q) {t : Nat} (ht : t < S.length) : ∃ a b, a ∈ p ∧ b ∈ q ∧ vt S t = ad a b ∧
    (∀ y ∈ p, cr (E S t) a ≤ cr (E S t) y) ∧ (∀ y ∈ q, cr (E S t) b ≤ cr (E S t) y) ∧ (∀ x, InC p x → cr (E S t) a ≤ cr (E S t) x) := by
  obtain ⟨i, k, hi, hk, hv, p1, p2, q1, q2, _⟩ := h.at' t ht
  have hne := h.sr.ne t ht
  have lp := hp.len
  have lq := hq.len
  refine ⟨vt p i, vt q k, vt_mem (by omega) i, vt_mem (by omega) k, hv, fun y hy => ?_, fun y hy => ?_, fun x hx => (hp.cone hne hi p1 p2 x).1 hx⟩
  · obtain ⟨j, hj, rfl⟩ := mem_vt hy
    exact hp.supp hne hi (fun i hi => (p1 i hi).ae) p2 j (by omega)
  · obtain ⟨j, hj, rfl⟩ := mem_vt hy
    exact hq.supp hne hk (fun i hi => (q1 i hi).ae) q2 j (by omega)

theorem SumSpec.mem {p q S : List Pt} (h : SumSpec p q S) (hp : Sr p) (hq : Sr q) {v : Pt} (hv : v ∈ S) : ∃ a b, a ∈ p ∧ b ∈ q ∧ v = ad a b := by
  obtain ⟨t, ht, rfl⟩ := mem_vt hv
  obtain ⟨a, b, h1, h2, h3, _⟩ := h.corner hp hq ht
  exact ⟨a, b, h1, h2, h3⟩

/-- the sum with a third polygon of one that lies in another one -/
theorem sum_in {p q r : List Pt} (hp : Sr p) (hq : Sr q) (hr : Sr r) (hin : ∀ y ∈ p, InC q y) : ∀ v ∈ sumF p r, InC (sumF q r) v := by
  intro v hv t ht
  obtain ⟨a, b, ha, hb, rfl⟩ := (sum_spec hp hr).mem hp hr hv
  obtain ⟨c, d, _, _, h3, h4, h5, h6⟩ := (sum_spec hq hr).corner hq hr ht
  rw [side_E ht, h3, cr_ad, cr_ad]
  have := h6 a (hin a ha)
  have := h5 b hb
  omega

theorem inside_spec {p q : List Pt} (h : InsideF p q = (true, 0)) : validF p = true ∧ validF q = true ∧ ∀ y ∈ p, InC q y := by
  unfold InsideF at h
  split at h
  · next hv =>
    simp only [Bool.and_eq_true] at hv
    refine ⟨hv.1, hv.2, fun y hy => ?_⟩
    have := (Prod.mk.injEq _ _ _ _ ▸ h).1
    simp only [Bool.not_eq_true', List.any_eq_false, decide_eq_true_eq] at this
    exact Classical.not_not.1 fun hn => this y hy ((place_lt q y).2 hn)
  · simp at h
theorem inside_of {p q : List Pt} (hp : validF p = true) (hq : validF q = true) (h : ∀ y ∈ p, InC q y) : InsideF p q = (true, 0) := by
  unfold InsideF
  rw [if_pos (by rw [hp, hq]; rfl)]
  have : p.any (fun v => decide (placeF q v < 0)) = false := by
    simp only [List.any_eq_false, decide_eq_true_eq]
    exact fun y hy hn => (place_lt q y).1 hn (h y hy)
  rw [this]; rfl

theorem sum_valid {p q : List Pt} (h : (SumF p q).2 = 0) : validF p = true ∧ validF q = true ∧ (SumF p q).1 = sumF p q ∧ validF (sumF p q) = true := by
  unfold SumF at h ⊢
  split at h
  · next hv =>
    rw [if_pos hv]
    simp only [Bool.and_eq_true] at hv
    simp only at h
    have hs := madeE_spec h
    exact ⟨hv.1, hv.2, by rw [madeL, if_pos h], valid_of_sr (sum_spec (valid_sr hv.1) (valid_sr hv.2)).sr hs.2 hs.1⟩
  · simp at h

theorem nested_sum {p q r : List Pt} (h : InsideF p q = (true, 0)) (h1 : (SumF p r).2 = 0) (h2 : (SumF q r).2 = 0) : InsideF (SumF p r).1 (SumF q r).1 = (true, 0) := by
  obtain ⟨vp, vq, hin⟩ := inside_spec h
  obtain ⟨_, vr, e1, v1⟩ := sum_valid h1
  obtain ⟨_, _, e2, v2⟩ := sum_valid h2
  rw [e1, e2]
  exact inside_of v1 v2 (sum_in (valid_sr vp) (valid_sr vq) (valid_sr vr) hin)

/-! directions that separate -/
theorem sepB_iff {p q : List Pt} (hp : 0 < p.length) (hq : 0 < q.length) (d : Pt) : sepB p q d = true ↔ ∀ v ∈ p, ∀ u ∈ q, dotP d v ≤ dotP d u := by
  unfold sepB
  rw [decide_eq_true_eq]
  obtain ⟨x, hx, ex⟩ := extF_mem (ps := p) d hp
  obtain ⟨y, hy, ey⟩ := extF_mem (ps := q) (vNeg d) hq
  rw [dot_negL] at ey
  constructor
  · intro h v hv u hu
    have h1 := extF_max (d := d) hv
    have h2 := extF_max (d := vNeg d) hu
    rw [dot_negL] at h2
    omega
  · intro h
    have := h x hx y hy
    omega

/-- p lies on the left of a line of direction e, and q does not -/
def SepE (p q : List Pt) (e : Pt) : Prop := ∀ v ∈ p, ∀ u ∈ q, cr e u ≤ cr e v

theorem dot_dirP {p : List Pt} {k : Nat} (hk : k < p.length) (v : Pt) : dotP (dirP p k) v = - cr (E p k) v := by
  rw [E_eq hk]
  unfold dotP dotI dirP cr sb
  simp only
  grind
theorem dot_dirQ {p : List Pt} {k : Nat} (hk : k < p.length) (v : Pt) : dotP (dirQ p k) v = cr (E p k) v := by
  rw [E_eq hk]
  unfold dotP dotI dirQ cr sb
  simp only
  grind
theorem cr_vNeg (a b : Pt) : cr (vNeg a) b = - cr a b := by unfold cr vNeg; grind
theorem cr_vNegR (a b : Pt) : cr a (vNeg b) = - cr a b := by unfold cr vNeg; grind

theorem sep_dirP {p q : List Pt} (hp : 0 < p.length) (hq : 0 < q.length) {k : Nat} (hk : k < p.length) : sepB p q (dirP p k) = true ↔ SepE p q (E p k) := by
  rw [sepB_iff hp hq]
  unfold SepE
  simp only [dot_dirP hk]
  exact ⟨fun h v hv u hu => by have := h v hv u hu; omega, fun h v hv u hu => by have := h v hv u hu; omega⟩
theorem sep_dirQ {p q : List Pt} (hp : 0 < p.length) (hq : 0 < q.length) {k : Nat} (hk : k < q.length) : sepB p q (dirQ q k) = true ↔ SepE p q (vNeg (E q k)) := by
  rw [sepB_iff hp hq]
  unfold SepE
  simp only [dot_dirQ hk, cr_vNeg]
  exact ⟨fun h v hv u hu => by have := h v hv u hu; omega, fun h v hv u hu => by have := h v hv u hu; omega⟩

theorem SepE.eqv {p q : List Pt} {a b : Pt} (h : SepE p q a) (hab : Eqv a b) : SepE p q b := by
  have hne : (0 < hh a ∧ 0 < hh b) ∨ (hh a < 0 ∧ hh b < 0) := by unfold Eqv Ae at hab; omega
  have hc : cr a b = 0 := by
    have := cr_neg a b
    unfold Eqv Ae at hab; omega
  have key : ∀ x, cr b x * hh a = cr a x * hh b := fun x => by
    have pk := pluck a b x
    rw [hc, Int.zero_mul, cr_neg a x] at pk
    have : -cr a x * hh b = -(cr a x * hh b) := Int.neg_mul _ _
    omega
  intro v hv u hu
  have h1 := h v hv u hu
  have k1 := key v
  have k2 := key u
  rcases hne with ⟨n1, n2⟩ | ⟨n1, n2⟩
  · have e := npp (show 0 ≤ cr a v - cr a u by omega) (Int.le_of_lt n2)
    rw [Int.sub_mul] at e
    have := fnon (a := cr b v - cr b u) (b := hh a) (by rw [Int.sub_mul]; omega) n1
    omega
  · have e := npn (show 0 ≤ cr a v - cr a u by omega) (Int.le_of_lt n2)
    rw [Int.sub_mul] at e
    have := gnon (a := cr b v - cr b u) (b := hh a) (by rw [Int.sub_mul]; omega) n1
    omega

theorem parted_sep {p q : List Pt} (hp : 0 < p.length) (hq : 0 < q.length) : (partedF p q).2 = true ↔ (∃ k, k < p.length ∧ SepE p q (E p k)) ∨ ∃ k, k < q.length ∧ SepE p q (vNeg (E q k)) := by
  rw [parted_iff]
  exact or_congr ⟨fun ⟨k, h1, h2⟩ => ⟨k, h1, (sep_dirP hp hq h1).1 h2⟩, fun ⟨k, h1, h2⟩ => ⟨k, h1, (sep_dirP hp hq h1).2 h2⟩⟩ ⟨fun ⟨k, h1, h2⟩ => ⟨k, h1, (sep_dirQ hp hq h1).1 h2⟩, fun ⟨k, h1, h2⟩ => ⟨k, h1, (sep_dirQ hp hq h1).2 h2⟩⟩

theorem SepE.swap {p q : List Pt} {e : Pt} : SepE p q e ↔ SepE q p (vNeg e) := by
  unfold SepE
  simp only [cr_vNeg]
  exact ⟨fun h v hv u hu => by have := h u hu v hv; omega, fun h v hv u hu => by have := h u hu v hv; omega⟩

theorem parted_swap {p q : List Pt} (hp : 0 < p.length) (hq : 0 < q.length) : (partedF q p).2 = (partedF p q).2 := by
  apply bool_eq_of_iff
  rw [parted_sep hp hq, parted_sep hq hp]
  have e1 : ∀ e, SepE q p (vNeg e) ↔ SepE p q e := fun e => SepE.swap.symm
  have e2 : ∀ e, SepE q p e ↔ SepE p q (vNeg e) := fun e => SepE.swap
  simp only [e1, e2]
  exact Or.comm

theorem Mir.edges {q o : List Pt} (h : Mir q o) (hq : 0 < q.length) (Q : Pt → Prop) : (∃ k, k < o.length ∧ Q (E o k)) ↔ ∃ k, k < q.length ∧ Q (vNeg (E q k)) := by
  obtain ⟨m, hm, hr⟩ := h.rot
  have e : ∀ k, k < q.length → E o k = vNeg (E q ((k + m) % q.length)) := fun k hk => by
    have hk' : (k + m) % q.length < q.length := Nat.mod_lt _ hq
    rw [E_eq (by rw [h.len]; exact hk), (hr k hk).1, (hr k hk).2, E_eq hk']
    unfold sb vNeg
    exact Prod.ext (by simp only; omega) (by simp only; omega)
  rw [h.len, ← ex_rot (fun k => Q (vNeg (E q k))) q.length m hm]
  exact ⟨fun ⟨k, h1, h2⟩ => ⟨k, h1, by rw [← e k h1]; exact h2⟩, fun ⟨k, h1, h2⟩ => ⟨k, h1, by rw [e k h1]; exact h2⟩⟩

/-- two polygons are parted exactly if zero is not in the interior of the sum of one and the mirror image of the other one -/
theorem parted_zero {p q o S : List Pt} (hp : Sr p) (hq : Sr q) (ho : Sr o) (hm : Mir q o) (hS : SumSpec p o S) : (partedF p q).2 = true ↔ ¬ InI S (0, 0) := by
  have lp := hp.len
  have lq := hq.len
  rw [parted_sep (by omega) (by omega), ← hm.edges (by omega) (SepE p q)]
  have h1 : ((∃ k, k < p.length ∧ SepE p q (E p k)) ∨ ∃ k, k < o.length ∧ SepE p q (E o k)) ↔ ∃ t, t < S.length ∧ SepE p q (E S t) := by
    constructor
    · rintro (⟨k, hk, h⟩ | ⟨k, hk, h⟩)
      · obtain ⟨t, ht, he⟩ := hS.hasP k hk
        exact ⟨t, ht, h.eqv he.symm⟩
      · obtain ⟨t, ht, he⟩ := hS.hasQ k hk
        exact ⟨t, ht, h.eqv he.symm⟩
    · rintro ⟨t, ht, h⟩
      obtain ⟨i, k, _, _, _, _, _, _, _, h9⟩ := hS.at' t ht
      rcases h9 with ⟨hi, he⟩ | ⟨hi, he⟩
      · exact .inl ⟨i, hi, h.eqv he⟩
      · exact .inr ⟨k, hi, h.eqv he⟩
  have h2 : ∀ t, t < S.length → (SepE p q (E S t) ↔ ¬ 0 < side S (0, 0) t) := fun t ht => by
    obtain ⟨a, b, ha, hb, hv, k1, k2, _⟩ := hS.corner hp ho ht
    obtain ⟨u, hu, rfl⟩ := (hm.mem b).1 hb
    have e0 : cr (E S t) (0, 0) = 0 := by unfold cr; simp
    rw [side_E ht, hv, cr_ad, cr_vNegR, e0]
    constructor
    · intro h; have := h a ha u hu; omega
    · intro h v hv' w hw
      have g1 := k1 v hv'
      have g2 := k2 (vNeg w) ((hm.mem _).2 ⟨w, hw, rfl⟩)
      rw [cr_vNegR, cr_vNegR] at g2
      omega
  rw [h1]
  unfold InI
  constructor
  · rintro ⟨t, ht, h⟩ hall
    exact (h2 t ht).1 h (hall t ht)
  · intro h
    obtain ⟨t, ht⟩ := Classical.not_forall.1 h
    obtain ⟨ht1, ht2⟩ := Classical.not_imp.1 ht
    exact ⟨t, ht1, (h2 t ht1).2 ht2⟩

theorem firstD_spec {f : Nat → Pt} {s : Pt → Bool} {n : Nat} {d : Pt} (h : firstD f s n = some d) : ∃ k, k < n ∧ d = f k ∧ s d = true := by
  unfold firstD at h
  have h1 := List.find?_some h
  have h2 := List.mem_of_find?_eq_some h
  obtain ⟨k, hk, rfl⟩ := List.mem_map.1 h2
  exact ⟨k, List.mem_range.1 hk, rfl, h1⟩

theorem parted_dir {p q : List Pt} (hp : Sr p) (hq : Sr q) (h : (partedF p q).2 = true) : (partedF p q).1 ≠ (0, 0) ∧ ∀ v ∈ p, ∀ u ∈ q, dotP (partedF p q).1 v ≤ dotP (partedF p q).1 u := by
  have lp := hp.len
  have lq := hq.len
  have zP : ∀ k, k < p.length → dirP p k ≠ (0, 0) := fun k hk e => by
    have := hp.ne k hk
    rw [E_eq hk] at this
    unfold dirP at e
    simp only [Prod.mk.injEq] at e
    apply this
    unfold hh sb
    simp only
    omega
  have zQ : ∀ k, k < q.length → dirQ q k ≠ (0, 0) := fun k hk e => by
    have := hq.ne k hk
    rw [E_eq hk] at this
    unfold dirQ at e
    simp only [Prod.mk.injEq] at e
    apply this
    unfold hh sb
    simp only
    omega
  unfold partedF at h ⊢
  cases h1 : firstD (dirP p) (sepB p q) p.length with
  | some d =>
    obtain ⟨k, hk, rfl, hs⟩ := firstD_spec h1
    exact ⟨zP k hk, (sepB_iff (by omega) (by omega) _).1 hs⟩
  | none =>
    rw [h1] at h
    cases h2 : firstD (dirQ q) (sepB p q) q.length with
    | some d =>
      obtain ⟨k, hk, rfl, hs⟩ := firstD_spec h2
      exact ⟨zQ k hk, (sepB_iff (by omega) (by omega) _).1 hs⟩
    | none => rw [h2] at h; simp at h

/-- what ConvexSeparates claims of two polygons -/
structure SepM (p q : List Pt) : Prop where
  f0 : (SeparateF p q).2 = if (OverlapF p q).1 then 10 else 0
  dir : (SeparateF p q).2 = 0 → (SeparateF p q).1 ≠ (0, 0) ∧ ∀ v ∈ p, ∀ u ∈ q, dotP (SeparateF p q).1 v ≤ dotP (SeparateF p q).1 u
  ov : OverlapF q p = ((OverlapF p q).1, 0)
  fl : (FlipF q).2 = 0
  sm : (SumF p (FlipF q).1).2 = 0 ∨ (SumF p (FlipF q).1).2 = 4 ∨ (SumF p (FlipF q).1).2 = 8
  at0 : (SumF p (FlipF q).1).2 = 0 → (PlaceF (SumF p (FlipF q).1).1 (0, 0)).2 = 0 ∧ ((PlaceF (SumF p (FlipF q).1).1 (0, 0)).1 = 1 ↔ (OverlapF p q).1 = true)

theorem sep_spec {p q : List Pt} (h : (OverlapF p q).2 = 0) : SepM p q := by
  have hv : validF p = true ∧ validF q = true := by
    unfold OverlapF at h
    split at h
    · next h1 => simpa using h1
    · simp at h
  obtain ⟨vp, vq⟩ := hv
  have hpq : (validF p && validF q) = true := by rw [vp, vq]; rfl
  have hqp : (validF q && validF p) = true := by rw [vp, vq]; rfl
  have sp := valid_sr vp
  have sq := valid_sr vq
  have lp := sp.len
  have lq := sq.len
  have eo : OverlapF p q = (!(partedF p q).2, 0) := by unfold OverlapF; rw [if_pos hpq]
  have es : SeparateF p q = if (partedF p q).2 then ((partedF p q).1, 0) else ((0, 0), 10) := by unfold SeparateF; rw [if_pos hpq]
  have ef : FlipF q = (hullF (q.map vNeg), 0) := by unfold FlipF; rw [if_pos vq]
  obtain ⟨hm, vo⟩ := flip_spec vq
  have hvo : (validF p && validF (hullF (q.map vNeg))) = true := by rw [vp, vo]; rfl
  have so := valid_sr vo
  have eS : SumF p (hullF (q.map vNeg)) = (madeL (sumF p (hullF (q.map vNeg))), madeE (sumF p (hullF (q.map vNeg)))) := by unfold SumF; rw [if_pos hvo]
  have hS := sum_spec sp so
  refine ⟨?_, ?_, ?_, by rw [ef], ?_, ?_⟩
  · rw [es, eo]; cases (partedF p q).2 <;> rfl
  · rw [es]
    cases hpt : (partedF p q).2 with
    | true => intro _; rw [if_pos rfl]; exact parted_dir sp sq hpt
    | false => intro h0; rw [if_neg (by simp)] at h0; simp at h0
  · unfold OverlapF
    rw [if_pos hqp, if_pos hpq, parted_swap (by omega) (by omega)]
  · rw [ef]; simp only
    rw [eS]
    simp only
    unfold madeE
    (repeat' split) <;> simp
  · rw [ef]; simp only
    intro h0
    obtain ⟨_, _, e1, e2⟩ := sum_valid h0
    rw [e1]
    unfold PlaceF
    rw [if_pos (by rw [e2]; rfl)]
    refine ⟨rfl, ?_⟩
    rw [place_one, eo]
    have := parted_zero sp sq so hm hS
    cases hpt : (partedF p q).2 with
    | true => rw [hpt] at this; simp [this.1 rfl]
    | false =>
      rw [hpt] at this
      simp only [Bool.not_false, iff_true]
      exact Classical.not_not.1 fun hn => absurd (this.2 hn) (by simp)

end Go.Proofs.Ytoghphikfkdkmaa.V
