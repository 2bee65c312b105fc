/-
  Wrapping, plainly: going around a polygon from vertex to vertex, by the points of a list that lie in it.
-/
import Derived.Test.YtjmklbkcpjmcaaaG1
namespace Go.Proofs.Ytjmklbkcpjmcaaa.V
open Go Go.RowKit Go.Proofs.Ytjmklbkcpjmcaaa.H
set_option linter.unusedVariables false
set_option linter.unusedSimpArgs false

def farI (a b : Pt) : Int := (a.1 - b.1) * (a.1 - b.1) + (a.2 - b.2) * (a.2 - b.2)
def dp (a b : Pt) : Int := a.1 * b.1 + a.2 * b.2
theorem far_dp (a b : Pt) : farI a b = dp (sb b a) (sb b a) := by unfold farI dp sb; grind
theorem dp_id (g e f : Pt) : cr g f * dp e e = cr g e * dp e f + dp g e * cr e f := by unfold cr dp; grind
theorem dp_sq (e f : Pt) : dp f f * dp e e = dp e f * dp e f + cr e f * cr e f := by unfold cr dp; grind
theorem sq_nn (a : Int) : 0 ≤ a * a := by
  rcases Int.lt_or_le a 0 with h | h
  · exact Int.le_of_lt (mnn h h)
  · exact npp h h
theorem dp_pos {e : Pt} (h : hh e ≠ 0) : 0 < dp e e := by
  have a := sq_nn e.1
  have b := sq_nn e.2
  unfold dp
  refine Int.lt_of_not_ge fun hle => h ?_
  have h1 : e.1 * e.1 = 0 := by omega
  have h2 : e.2 * e.2 = 0 := by omega
  have h1 : e.1 = 0 := by rcases Int.mul_eq_zero.1 h1 with h | h <;> exact h
  have h2 : e.2 = 0 := by rcases Int.mul_eq_zero.1 h2 with h | h <;> exact h
  unfold hh
  rw [h1, h2]; rfl

/-- a point of a polygon on the line of an edge lies on the edge -/
theorem seg_far {S : List Pt} (hS : Sr S) {k : Nat} (hk : k < S.length) {x : Pt} (hx : InC S x) (h0 : cr (E S k) (sb x (vt S k)) = 0) :
    farI (vt S k) x ≤ farI (vt S k) (vt S (k + 1)) ∧ (farI (vt S k) x = farI (vt S k) (vt S (k + 1)) → x = vt S (k + 1)) := by
  have hl := hS.len
  have hcv := hS.cv
  obtain ⟨e, he⟩ : ∃ e, e = E S k := ⟨_, rfl⟩
  obtain ⟨f, hf⟩ : ∃ f, f = sb x (vt S k) := ⟨_, rfl⟩
  rw [far_dp, far_dp, ← hf]
  have hee : sb (vt S (k + 1)) (vt S k) = e := by rw [he]; rfl
  rw [hee]
  rw [← he, ← hf] at h0
  have hpos : 0 < dp e e := dp_pos (by rw [he]; exact hS.ne k hk)
  -- the edge after
  have hk1 : (k + 1) % S.length < S.length := Nat.mod_lt _ (by omega)
  have t1 := hcv.turn hk
  have s1 := hx _ hk1
  rw [side_E hk1] at s1
  have v1 : vt S ((k + 1) % S.length) = vt S (k + 1) := by unfold vt; rw [Nat.mod_mod]
  rw [v1] at s1
  -- the edge before
  obtain ⟨i, hi, hik⟩ : ∃ i, i < S.length ∧ (i + 1) % S.length = k := by
    rcases Nat.eq_zero_or_pos k with h | h
    · exact ⟨S.length - 1, by omega, by rw [show S.length - 1 + 1 = S.length by omega, Nat.mod_self, h]⟩
    · exact ⟨k - 1, by omega, by rw [show k - 1 + 1 = k by omega, Nat.mod_eq_of_lt hk]⟩
  have t2 := hcv.turn hi
  rw [hik, ← he] at t2
  have s2 := hx _ hi
  have v2 : vt S (i + 1) = vt S k := by unfold vt; rw [hik, Nat.mod_eq_of_lt hk]
  rw [side_E hi, ← cr_E_vt, v2, ← cr_sb, ← hf] at s2
  have d1 := dp_id (E S i) e f
  rw [h0, Int.mul_zero, Int.add_zero] at d1
  have g1 : 0 ≤ dp e f := by
    have := npp s2 (Int.le_of_lt hpos)
    rw [d1, Int.mul_comm] at this
    exact fnon this t2
  rw [← he] at t1
  have xe : sb x (vt S (k + 1)) = sb f e := by rw [hf, ← hee]; unfold sb; exact Prod.ext (by simp only; omega) (by simp only; omega)
  rw [← cr_sb, xe, cr_sb] at s1
  generalize E S ((k + 1) % S.length) = g at s1 t1
  have d2 := dp_id g e f
  rw [h0, Int.mul_zero, Int.add_zero] at d2
  have g2 : dp e f ≤ dp e e := by
    have c1 := cr_neg e g
    have := npp s1 (Int.le_of_lt hpos)
    rw [Int.sub_mul, d2, ← Int.mul_sub, Int.mul_comm] at this
    have := gnop this (by omega)
    omega
  have d3 := dp_sq e f
  rw [h0, Int.mul_zero, Int.add_zero] at d3
  have m1 := npp g1 (show 0 ≤ dp e e - dp e f by omega)
  have m2 := npp (Int.le_of_lt hpos) (show 0 ≤ dp e e - dp e f by omega)
  rw [Int.mul_sub] at m1 m2
  have hc := Int.mul_comm (dp e f) (dp e e)
  constructor
  · have : 0 ≤ (dp e e - dp f f) * dp e e := by rw [Int.sub_mul]; omega
    have := fnon this hpos
    omega
  · intro heq
    rw [heq] at d3
    have e1 : (dp e e - dp e f) * dp e e = 0 := by
      rw [Int.sub_mul]
      have : dp e f * dp e e ≤ dp e e * dp e e := by omega
      have : dp e f * dp e f ≤ dp e f * dp e e := by omega
      omega
    have e2 : dp e f = dp e e := by
      rcases Int.mul_eq_zero.1 e1 with h | h <;> omega
    have e3 : ∀ g, cr g f = cr g e := fun g => by
      have d := dp_id g e f
      rw [h0, Int.mul_zero, Int.add_zero, e2] at d
      exact Int.eq_of_mul_eq_mul_right (by omega) d
    have e4 := e3 (1, 0)
    have e5 := e3 (0, 1)
    unfold cr at e4 e5
    simp only at e4 e5
    have hfe : f = e := Prod.ext (by omega) (by omega)
    rw [hf, ← hee] at hfe
    unfold sb at hfe
    simp only [Prod.mk.injEq] at hfe
    exact Prod.ext (by omega) (by omega)

/-! one step of the wrapping -/
def nextF (at' next x : Pt) : Pt := if x = at' then next else if next = at' ∨ trn at' next x < 0 ∨ (trn at' next x = 0 ∧ farI at' x > farI at' next) then x else next

structure Best (l : List Pt) (a b : Pt) : Prop where
  mem : b ∈ l
  ne : b ≠ a
  left : ∀ x ∈ l, 0 ≤ trn a b x
  far : ∀ x ∈ l, trn a b x = 0 → farI a x ≤ farI a b ∧ (farI a x = farI a b → x = b)

theorem trn_swap (a b c : Pt) : trn a c b = - trn a b c := by rw [trn_cr, trn_cr, cr_neg]

theorem Best.step {l : List Pt} {a b : Pt} (h : Best l a b) {next x : Pt} (hn : next = a ∨ next ∈ l) (hx : x ∈ l) :
    (nextF a next x = a ∨ nextF a next x ∈ l) ∧ (next = b → nextF a next x = b) ∧ (x = b → nextF a next x = b) := by
  refine ⟨?_, ?_, ?_⟩
  · unfold nextF
    (repeat' split)
    · exact hn
    · exact .inr hx
    · exact hn
  · rintro rfl
    unfold nextF
    split
    · rfl
    · rw [if_neg]
      rintro (h1 | h1 | ⟨h1, h2⟩)
      · exact h.ne h1
      · have := h.left x hx; omega
      · have := (h.far x hx h1).1; omega
  · rintro rfl
    unfold nextF
    rw [if_neg h.ne]
    by_cases hna : next = a
    · rw [if_pos (.inl hna)]
    · have hnl : next ∈ l := hn.resolve_left hna
      have h1 := h.left next hnl
      have h2 := trn_swap a next x
      by_cases hz : trn a x next = 0
      · obtain ⟨h3, h4⟩ := h.far next hnl hz
        by_cases hnx : next = x
        · subst hnx
          split <;> rfl
        · rw [if_pos (.inr (.inr ⟨by omega, by
            rcases Int.lt_or_eq_of_le h3 with h5 | h5
            · exact h5
            · exact absurd (h4 h5) hnx⟩))]
      · rw [if_pos (.inr (.inl (by omega)))]

/-- the next vertex, after the first k points -/
def scanN (a : Pt) (l : List Pt) (k : Nat) : Pt := (l.take k).foldl (nextF a) a
theorem scanN_succ {a : Pt} {l : List Pt} {k : Nat} (hk : k < l.length) : scanN a l (k + 1) = nextF a (scanN a l k) l[k] := by
  unfold scanN
  rw [List.take_add_one, List.getElem?_eq_getElem hk, List.foldl_append]
  rfl
theorem scanN_inv {l : List Pt} {a b : Pt} (h : Best l a b) : ∀ k, k ≤ l.length → (scanN a l k = a ∨ scanN a l k ∈ l) ∧ (b ∈ l.take k → scanN a l k = b)
  | 0, _ => ⟨.inl rfl, fun h => by simp at h⟩
  | k + 1, hk => by
    obtain ⟨h1, h2⟩ := scanN_inv h k (by omega)
    rw [scanN_succ (by omega)]
    obtain ⟨s1, s2, s3⟩ := h.step h1 (List.getElem_mem (show k < l.length by omega))
    refine ⟨s1, fun hb => ?_⟩
    rw [List.take_add_one, List.getElem?_eq_getElem (by omega)] at hb
    rcases List.mem_append.1 hb with h3 | h3
    · exact s2 (h2 h3)
    · simp at h3
      exact s3 h3.symm
theorem scanN_best {l : List Pt} {a b : Pt} (h : Best l a b) : scanN a l l.length = b :=
  (scanN_inv h _ (Nat.le_refl _)).2 (by rw [List.take_length]; exact h.mem)

/-- S is the polygon of the points of l -/
structure HullOf (l S : List Pt) : Prop where
  sr : Sr S
  sub : ∀ v ∈ S, v ∈ l
  all : ∀ x ∈ l, InC S x

theorem HullOf.best {l S : List Pt} (h : HullOf l S) {k : Nat} (hk : k < S.length) : Best l (vt S k) (vt S (k + 1)) := by
  have hl := h.sr.len
  have e1 : ∀ x, trn (vt S k) (vt S (k + 1)) x = cr (E S k) (sb x (vt S k)) := fun x => rfl
  refine ⟨h.sub _ (vt_mem (by omega) _), fun e => ?_, fun x hx => ?_, fun x hx h0 => ?_⟩
  · have := h.sr.ne k hk
    unfold E at this
    rw [e, hh_sb] at this
    omega
  · have := h.all x hx k hk
    rw [side_E hk] at this
    rw [e1, cr_sb]; exact this
  · rw [e1] at h0
    exact seg_far h.sr hk (h.all x hx) h0

theorem HullOf.low {l S : List Pt} (h : HullOf l S) (hb : Near l) {x : Pt} (hx : x ∈ l) : x = vt S 0 ∨ lt2 (vt S 0) x := by
  have hs := h.sr
  have hl := hs.len
  obtain ⟨m, m0, mn, hu, hd⟩ := hs.top
  have ht := hs.cv.turn (k := S.length - 1) (by omega)
  rw [show S.length - 1 + 1 = S.length by omega, Nat.mod_self] at ht
  have s1 := h.all x hx (S.length - 1) (by omega)
  have s2 := h.all x hx 0 (by omega)
  rw [side_E (by omega), ← cr_E_vt, show S.length - 1 + 1 = S.length by omega, vt_n, ← cr_sb] at s1
  rw [side_E (by omega), ← cr_sb] at s2
  have pk := pluck (E S (S.length - 1)) (E S 0) (sb x (vt S 0))
  rw [cr_neg (E S (S.length - 1)) (sb _ _)] at pk
  have a1 := npn s2 (Int.le_of_lt (hd (S.length - 1) (by omega) (by omega)))
  have a2 := nnp (show -cr (E S (S.length - 1)) (sb x (vt S 0)) ≤ 0 by omega) (Int.le_of_lt (hu 0 m0))
  have hge := fnon (a := hh (sb x (vt S 0))) (b := cr (E S (S.length - 1)) (E S 0)) (by rw [Int.mul_comm]; omega) ht
  have hn := hb _ (h.sub _ (vt_mem (p := S) (by omega) 0)) x hx
  rw [hh_sb] at hge
  by_cases he : x = vt S 0
  · exact .inl he
  · refine .inr ((lt2_hh hn.1 hn.2).2 ?_)
    have := ne_of_hh (a := vt S 0) (b := x) (fun e => he e.symm) hn.1 hn.2
    rw [hh_sb] at this
    omega

/-- all sums of a point of p and one of q -/
def sumsF (p q : List Pt) : List Pt := p.flatMap fun a => q.map (vAdd a)
theorem mem_sums {p q : List Pt} {x : Pt} : x ∈ sumsF p q ↔ ∃ a ∈ p, ∃ b ∈ q, x = ad a b := by
  unfold sumsF
  simp only [List.mem_flatMap, List.mem_map]
  have e : ∀ a b, vAdd a b = ad a b := fun a b => by unfold vAdd ad; exact Prod.ext (by simp only; omega) (by simp only; omega)
  simp only [e]
  exact ⟨fun ⟨a, h1, b, h2, h3⟩ => ⟨a, h1, b, h2, h3.symm⟩, fun ⟨a, h1, b, h2, h3⟩ => ⟨a, h1, b, h2, h3.symm⟩⟩

theorem sums_hull {p o q : List Pt} (hp : Sr p) (ho : Sr o) (hq : ∀ x, x ∈ q ↔ x ∈ o) : HullOf (sumsF p q) (sumF p o) := by
  have hS := sum_spec hp ho
  refine ⟨hS.sr, fun v hv => ?_, fun x hx => ?_⟩
  · obtain ⟨a, b, h1, h2, h3⟩ := hS.mem hp ho hv
    exact mem_sums.2 ⟨a, h1, b, (hq b).2 h2, h3⟩
  · obtain ⟨a, h1, b, h2, rfl⟩ := mem_sums.1 hx
    intro t ht
    obtain ⟨c, d, _, _, h3, h4, h5, _⟩ := hS.corner hp ho ht
    rw [side_E ht, h3, cr_ad, cr_ad]
    have := h4 a h1
    have := h5 b ((hq b).1 h2)
    omega

theorem sums_len (p q : List Pt) : (sumsF p q).length = p.length * q.length := by
  unfold sumsF
  induction p with
  | nil => simp
  | cons a p ih => rw [List.flatMap_cons, List.length_append, ih, List.length_map, List.length_cons, Nat.succ_mul]; omega

/-- zero is in the interior of the wrapped sums exactly if the two polygons overlap -/
theorem overlap_zero {p q : List Pt} (hp : validF p = true) (hq : validF q = true) : HullOf (sumsF p (q.map vNeg)) (sumF p (hullF (q.map vNeg))) ∧ (placeF (sumF p (hullF (q.map vNeg))) (0, 0) = 1 ↔ (partedF p q).2 = false) := by
  obtain ⟨hm, vo⟩ := flip_spec hq
  have sp := valid_sr hp
  have so := valid_sr vo
  refine ⟨sums_hull sp so (fun x => ?_), ?_⟩
  · rw [hm.mem x, List.mem_map]
  · rw [place_one]
    have := parted_zero sp (valid_sr hq) so hm (sum_spec sp so)
    cases hpt : (partedF p q).2 with
    | true => rw [hpt] at this; simp [this.1 rfl]
    | false =>
      rw [hpt] at this
      simp only [iff_true]
      exact Classical.not_not.1 fun hn => absurd (this.2 hn) (by simp)

end Go.Proofs.Ytjmklbkcpjmcaaa.V
