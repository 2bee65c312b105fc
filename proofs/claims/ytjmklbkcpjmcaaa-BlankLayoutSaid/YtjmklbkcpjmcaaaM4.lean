/-
  Polygons, plainly: mirrored polygons; the law ConvexMotions.
-/
import Derived.Test.YtjmklbkcpjmcaaaM3
namespace Go.Proofs.Ytjmklbkcpjmcaaa.V
open Go Go.RowKit Go.Proofs.Ytjmklbkcpjmcaaa.H
set_option linter.unusedVariables false
set_option linter.unusedSimpArgs false

theorem ex_rot (Q : Nat → Prop) (n m : Nat) (hm : m ≤ n) : (∃ k, k < n ∧ Q ((k + m) % n)) ↔ ∃ k, k < n ∧ Q k := by
  constructor
  · rintro ⟨k, hk, hq⟩
    exact ⟨_, Nat.mod_lt _ (by omega), hq⟩
  · rintro ⟨k, hk, hq⟩
    refine ⟨(k + (n - m)) % n, Nat.mod_lt _ (by omega), ?_⟩
    have e : ((k + (n - m)) % n + m) % n = k := by
      rw [Nat.mod_add_mod]
      have : k + (n - m) + m = k + n := by omega
      rw [this, Nat.add_mod_right, Nat.mod_eq_of_lt hk]
    rw [e]; exact hq

/-- f is the mirror image of p, begun elsewhere -/
structure Mir (p f : List Pt) : Prop where
  ex : ∃ A B : List Pt, p = A ++ B ∧ f = (B ++ A).map vNeg

theorem Mir.len {p f : List Pt} (h : Mir p f) : f.length = p.length := by
  obtain ⟨A, B, rfl, rfl⟩ := h.ex
  simp; omega
theorem Mir.mem {p f : List Pt} (h : Mir p f) (x : Pt) : x ∈ f ↔ ∃ y ∈ p, vNeg y = x := by
  obtain ⟨A, B, rfl, rfl⟩ := h.ex
  simp only [List.mem_map, List.mem_append]
  exact ⟨fun ⟨a, h1, h2⟩ => ⟨a, h1.symm, h2⟩, fun ⟨a, h1, h2⟩ => ⟨a, h1.symm, h2⟩⟩
theorem Mir.rot {p f : List Pt} (h : Mir p f) : ∃ m, m ≤ p.length ∧ ∀ k, k < p.length → nth f k = vNeg (nth p ((k + m) % p.length)) ∧ nx f k = vNeg (nx p ((k + m) % p.length)) := by
  obtain ⟨A, B, rfl, rfl⟩ := h.ex
  refine ⟨A.length, by simp, fun k hk => ?_⟩
  rw [List.length_append] at hk ⊢
  rw [nth_map vNeg (by simp; omega), nx_map vNeg (by simp; omega), nth_rot hk, nx_rot hk]
  exact ⟨rfl, rfl⟩

theorem dot_neg2 (d y : Pt) : dotP (vNeg d) (vNeg y) = dotP d y + 0 := by rw [dot_negL, dot_negR]; omega

theorem sepB_mir {p q f g : List Pt} (hf : Mir p f) (hg : Mir q g) (hp : 0 < p.length) (hq : 0 < q.length) (d : Pt) : sepB f g (vNeg d) = sepB p q d := by
  unfold sepB
  rw [extF_map (c := 0) (f := vNeg) (d := d) hp (hf.mem) (fun y _ => dot_neg2 d y), extF_map (c := 0) (f := vNeg) (d := vNeg d) hq (hg.mem) (fun y _ => dot_neg2 _ y)]
  congr 1
  apply propext
  omega

theorem parted_mir {p q f g : List Pt} (hf : Mir p f) (hg : Mir q g) (hp : 0 < p.length) (hq : 0 < q.length) : (partedF f g).2 = (partedF p q).2 := by
  obtain ⟨m, hm, hmr⟩ := hf.rot
  obtain ⟨m', hm', hmr'⟩ := hg.rot
  apply bool_eq_of_iff
  rw [parted_iff, parted_iff, hf.len, hg.len, ← ex_rot (fun k => sepB p q (dirP p k) = true) p.length m hm, ← ex_rot (fun k => sepB p q (dirQ q k) = true) q.length m' hm']
  have e1 : ∀ k, k < p.length → dirP f k = vNeg (dirP p ((k + m) % p.length)) := fun k hk => by
    unfold dirP
    rw [(hmr k hk).1, (hmr k hk).2]
    simp only [vNeg]
    exact Prod.ext (by simp only; omega) (by simp only; omega)
  have e2 : ∀ k, k < q.length → dirQ g k = vNeg (dirQ q ((k + m') % q.length)) := fun k hk => by
    unfold dirQ
    rw [(hmr' k hk).1, (hmr' k hk).2]
    simp only [vNeg]
    exact Prod.ext (by simp only; omega) (by simp only; omega)
  refine or_congr ⟨fun ⟨k, h1, h2⟩ => ⟨k, h1, ?_⟩, fun ⟨k, h1, h2⟩ => ⟨k, h1, ?_⟩⟩ ⟨fun ⟨k, h1, h2⟩ => ⟨k, h1, ?_⟩, fun ⟨k, h1, h2⟩ => ⟨k, h1, ?_⟩⟩
  · rw [e1 k h1, sepB_mir hf hg hp hq] at h2; exact h2
  · rw [e1 k h1, sepB_mir hf hg hp hq]; exact h2
  · rw [e2 k h1, sepB_mir hf hg hp hq] at h2; exact h2
  · rw [e2 k h1, sepB_mir hf hg hp hq]; exact h2

theorem placeF_mir {q g : List Pt} (hg : Mir q g) (y : Pt) : placeF g (vNeg y) = placeF q y := by
  obtain ⟨m, hm, hmr⟩ := hg.rot
  have e : ∀ k, k < q.length → side g (vNeg y) k = side q y ((k + m) % q.length) := fun k hk => by
    unfold side
    rw [(hmr k hk).1, (hmr k hk).2, trn_vNeg]
  apply placeF_congr
  · rw [hg.len, ← ex_rot (fun k => side q y k < 0) q.length m hm]
    exact ⟨fun ⟨k, h1, h2⟩ => ⟨k, h1, by rw [e k h1] at h2; exact h2⟩, fun ⟨k, h1, h2⟩ => ⟨k, h1, by rw [e k h1]; exact h2⟩⟩
  · rw [hg.len, ← ex_rot (fun k => side q y k = 0) q.length m hm]
    exact ⟨fun ⟨k, h1, h2⟩ => ⟨k, h1, by rw [e k h1] at h2; exact h2⟩, fun ⟨k, h1, h2⟩ => ⟨k, h1, by rw [e k h1]; exact h2⟩⟩

theorem okB_neg (q : Pt) : okB (vNeg q).1 (vNeg q).2 = okB q.1 q.2 := by
  unfold okB vNeg
  congr 1
  apply propext
  simp only
  omega

theorem flip_spec {p : List Pt} (h : validF p = true) : Mir p (hullF (p.map vNeg)) ∧ validF (hullF (p.map vNeg)) = true := by
  obtain ⟨v1, v2, v3, v4⟩ := validF_spec h
  have hl : 3 ≤ (dd (srt p)).length := by
    refine Nat.le_of_not_lt fun hlt => ?_
    have e : hullF p = dd (srt p) := by unfold hullF hullP; rw [if_pos hlt]
    rw [v4] at e
    rw [← e] at hlt
    omega
  obtain ⟨A, B, hA, hB⟩ := hullF_neg p hl
  rw [v4] at hA
  have hmir : Mir p (hullF (p.map vNeg)) := ⟨A, B, hA, hB⟩
  have hperm : (hullF (p.map vNeg)).Perm (p.map vNeg) := by
    rw [hB, hA]
    exact (List.perm_append_comm).map _
  refine ⟨hmir, validF_of (by rw [hmir.len]; exact v1) (by rw [hmir.len]; exact v2) ?_ (hullF_perm hperm)⟩
  rw [List.any_eq_false]
  intro x hx
  obtain ⟨y, hy, rfl⟩ := (hmir.mem x).1 hx
  rw [okB_neg]
  have hv : p.any (fun q => !okB q.1 q.2) = false := by
    simp only [validF, Bool.and_eq_true, Bool.not_eq_true', Bool.or_eq_false_iff] at h
    exact h.1.2
  exact List.any_eq_false.1 hv y hy

theorem areaC_mir {p f : List Pt} (h : Mir p f) : areaC f = areaC p := by
  obtain ⟨A, B, rfl, rfl⟩ := h.ex
  rw [areaC_neg, areaC_cyc, areaC_cyc, cyc_rot]
theorem onC_mir {p f : List Pt} (h : Mir p f) : onC f = onC p := by
  obtain ⟨A, B, rfl, rfl⟩ := h.ex
  rw [onC_neg, onC_cyc, onC_cyc, cyc_rot]

theorem alike_flip (p q : List Pt) (hp : (FlipF p).2 = 0) (hq : (FlipF q).2 = 0) : AlikeM p q (FlipF p).1 (FlipF q).1 := by
  have ok : ∀ {p : List Pt}, (FlipF p).2 = 0 → validF p = true ∧ (FlipF p).1 = hullF (p.map vNeg) := fun {p} h => by
    unfold FlipF at h ⊢
    split at h
    · next hv => exact ⟨hv, by rw [if_pos hv]⟩
    · simp at h
  obtain ⟨p1, p2⟩ := ok hp
  obtain ⟨q1, q2⟩ := ok hq
  obtain ⟨hf, p3⟩ := flip_spec p1
  obtain ⟨hg, q3⟩ := flip_spec q1
  rw [← p2] at hf p3
  rw [← q2] at hg q3
  have lp := (validF_spec p1).1
  have lq := (validF_spec q1).1
  generalize (FlipF p).1 = f at hf p3 ⊢
  generalize (FlipF q).1 = g at hg q3 ⊢
  have hov : (validF p && validF q) = true := by rw [p1, q1]; rfl
  have hov2 : (validF f && validF g) = true := by rw [p3, q3]; rfl
  refine ⟨by rw [AreaF, if_pos p1], by rw [AreaF, if_pos p3], by rw [PointsF, if_pos p1], by rw [PointsF, if_pos p3], ?_, ?_, ?_, by rw [OverlapF, if_pos hov], by rw [OverlapF, if_pos hov2], by rw [InsideF, if_pos hov], by rw [InsideF, if_pos hov2], ?_, ?_⟩
  · rw [AreaF, AreaF, if_pos p1, if_pos p3]; exact (areaC_mir hf).symm
  · rw [PointsF, PointsF, if_pos p1, if_pos p3, areaC_mir hf, onC_mir hf]
  · rw [PointsF, PointsF, if_pos p1, if_pos p3]; exact (onC_mir hf).symm
  · rw [OverlapF, OverlapF, if_pos hov, if_pos hov2]
    simp only
    rw [parted_mir hf hg (by omega) (by omega)]
  · rw [InsideF, InsideF, if_pos hov, if_pos hov2]
    simp only
    congr 1
    apply bool_eq_of_iff
    simp only [List.any_eq_true, decide_eq_true_eq]
    constructor
    · rintro ⟨x, hx, h⟩
      obtain ⟨y, hy, rfl⟩ := (hf.mem x).1 hx
      rw [placeF_mir hg] at h
      exact ⟨y, hy, h⟩
    · rintro ⟨y, hy, h⟩
      exact ⟨vNeg y, (hf.mem _).2 ⟨y, hy, rfl⟩, by rw [placeF_mir hg]; exact h⟩

end Go.Proofs.Ytjmklbkcpjmcaaa.V
