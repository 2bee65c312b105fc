/-
  The sum of two polygons, plainly: what the walk around both makes is a polygon, whose edges are those of both.
-/
import Derived.Test.YtoghphikfkdkmaaG6
import Derived.Test.YtoghphikfkdkmaaV11a
namespace Go.Proofs.Ytoghphikfkdkmaa.V
open Go Go.RowKit Go.Proofs.Ytoghphikfkdkmaa.H
set_option linter.unusedVariables false
set_option linter.unusedSimpArgs false

/-- of one direction -/
def Eqv (a b : Pt) : Prop := Ae a b ∧ Ae b a
theorem Eqv.refl {a : Pt} (h : hh a ≠ 0) : Eqv a a := ⟨Ae.refl h, Ae.refl h⟩
theorem Eqv.symm {a b : Pt} (h : Eqv a b) : Eqv b a := ⟨h.2, h.1⟩

theorem noX {a b c : Pt} (ha : 0 < hh a) (hb : 0 < hh b) (hc : hh c < 0) (h1 : 0 < cr a b) (h2 : 0 < cr a c) (h3 : cr b c ≤ 0) : False := by
  have pk := pluck a b c
  rw [cr_neg a c] at pk
  have e1 := mpn h1 hc
  have e2 := nnp h3 (Int.le_of_lt ha)
  have e3 := mnp (show -cr a c < 0 by omega) hb
  omega

def pt (p q : List Pt) (s : Nat × Nat) : Pt := ad (vt p s.1) (vt q s.2)
def nxS (p q : List Pt) (s : Nat × Nat) : Nat × Nat :=
  if s.2 = q.length ∨ (s.1 < p.length ∧ 0 ≤ cr (E p s.1) (E q s.2)) then
    (if s.2 < q.length ∧ cr (E p s.1) (E q s.2) = 0 then (s.1 + 1, s.2 + 1) else (s.1 + 1, s.2))
  else (s.1, s.2 + 1)
def run (p q : List Pt) : Nat → Nat × Nat
  | 0 => (0, 0)
  | t + 1 => nxS p q (run p q t)

structure At (p q : List Pt) (s : Nat × Nat) : Prop where
  i : s.1 ≤ p.length
  k : s.2 ≤ q.length
  a : 1 ≤ s.1 → s.2 < q.length → An (E p (s.1 - 1)) (E q s.2)
  b : 1 ≤ s.2 → s.1 < p.length → An (E q (s.2 - 1)) (E p s.1)

/-- the ways to go on -/
inductive Goes (p q : List Pt) (s : Nat × Nat) : Nat × Nat → Prop where
  | p : s.1 < p.length → (s.2 < q.length → An (E p s.1) (E q s.2)) → Goes p q s (s.1 + 1, s.2)
  | q : s.2 < q.length → (s.1 < p.length → An (E q s.2) (E p s.1)) → Goes p q s (s.1, s.2 + 1)
  | both : s.1 < p.length → s.2 < q.length → Eqv (E p s.1) (E q s.2) → Goes p q s (s.1 + 1, s.2 + 1)

theorem Sr.up0 {p : List Pt} (h : Sr p) : 0 < hh (E p 0) := by
  obtain ⟨m, m0, mn, hu, hd⟩ := h.top
  exact hu 0 m0

theorem Sr.turn {p : List Pt} (h : Sr p) {k : Nat} (hk : k + 1 < p.length) : 0 < cr (E p k) (E p (k + 1)) := by
  have := h.cv.turn (k := k) (by omega)
  rwa [Nat.mod_eq_of_lt hk] at this

/-- one does not lie half a turn before the other -/
theorem At.clash {p q : List Pt} {i k : Nat} (hp : Sr p) (h : 1 ≤ i → An (E p (i - 1)) (E q k)) (hi : i < p.length) (h1 : hh (E p i) < 0) (h2 : 0 < hh (E q k)) : cr (E p i) (E q k) < 0 := by
  refine Int.lt_of_not_ge fun hge => ?_
  have hi0 : 1 ≤ i := by
    rcases Nat.eq_zero_or_pos i with rfl | h3
    · have := hp.up0; omega
    · exact h3
  have ha := h hi0
  have ht := hp.turn (k := i - 1) (by omega)
  rw [show i - 1 + 1 = i by omega] at ht
  unfold An at ha
  exact noX (a := E p (i - 1)) (b := E q k) (c := E p i) (by omega) h2 h1 (by omega) ht (by rw [cr_neg]; omega)

theorem goes {p q : List Pt} {s : Nat × Nat} (hp : Sr p) (hq : Sr q) (h : At p q s) (hnot : s.1 < p.length ∨ s.2 < q.length) : Goes p q s (nxS p q s) := by
  obtain ⟨i, k⟩ := s
  obtain ⟨hi, hk, ha, hb⟩ := h
  simp only at hi hk ha hb hnot
  unfold nxS
  simp only
  split
  · next hc =>
    rcases Nat.lt_or_eq_of_le hk with hkm | hkm
    · have hin : i < p.length ∧ 0 ≤ cr (E p i) (E q k) := by
        rcases hc with h | h
        · omega
        · exact h
      have n1 := hp.ne i hin.1
      have n2 := hq.ne k hkm
      have c1 : ¬ (hh (E p i) < 0 ∧ 0 < hh (E q k)) := fun ⟨h1, h2⟩ => by
        have := At.clash hp (fun h => ha h hkm) hin.1 h1 h2; omega
      split
      · next h0 =>
        have c2 : ¬ (hh (E q k) < 0 ∧ 0 < hh (E p i)) := fun ⟨h1, h2⟩ => by
          have := At.clash hq (fun h => hb h hin.1) hkm h1 h2
          rw [cr_neg] at this; omega
        refine .both hin.1 hkm ?_
        have := cr_neg (E p i) (E q k)
        show Eqv (E p i) (E q k)
        unfold Eqv Ae
        omega
      · next h0 =>
        refine .p hin.1 fun _ => ?_
        show An (E p i) (E q k)
        unfold An
        omega
    · rw [if_neg (by omega)]
      exact .p (by omega) (fun h => by simp only at h; omega)
  · next hc =>
    refine .q (by simp only; omega) fun hin => ?_
    simp only at hin
    have hkm : k < q.length := by omega
    have n1 := hp.ne i hin
    have n2 := hq.ne k hkm
    have c2 : ¬ (hh (E q k) < 0 ∧ 0 < hh (E p i)) := fun ⟨h1, h2⟩ => by
      have := At.clash hq (fun h => hb h hin) hkm h1 h2
      rw [cr_neg] at this; omega
    have := cr_neg (E p i) (E q k)
    show An (E q k) (E p i)
    unfold An
    omega

/-- what is known of the edge that is gone along -/
structure Fine (p q : List Pt) (s s' : Nat × Nat) (d : Pt) : Prop where
  ne : hh d ≠ 0
  p1 : ∀ j, j < s.1 → An (E p j) d
  p2 : ∀ j, s.1 ≤ j → j < p.length → Ae d (E p j)
  q1 : ∀ j, j < s.2 → An (E q j) d
  q2 : ∀ j, s.2 ≤ j → j < q.length → Ae d (E q j)
  nxt : ∀ f, (∀ j, j < s'.1 → An (E p j) f) → (∀ j, j < s'.2 → An (E q j) f) → An d f
  isP : s.1 < s'.1 → Eqv d (E p s.1)
  isQ : s.2 < s'.2 → Eqv d (E q s.2)
  some : (s.1 < s'.1 ∧ s.1 < p.length) ∨ (s.2 < s'.2 ∧ s.2 < q.length)
  at' : At p q s'
  i1 : s'.1 = s.1 ∨ s'.1 = s.1 + 1
  k1 : s'.2 = s.2 ∨ s'.2 = s.2 + 1

theorem Sr.before {p : List Pt} (h : Sr p) {i : Nat} (hi : i ≤ p.length) {d : Pt} (hd : 1 ≤ i → An (E p (i - 1)) d) (j : Nat) (hj : j < i) : An (E p j) d := by
  rcases Nat.lt_or_eq_of_le (show j ≤ i - 1 by omega) with h1 | h1
  · exact (h.srt j (i - 1) h1 (by omega)).trans (hd (by omega))
  · subst h1; exact hd (by omega)
theorem Sr.after {p : List Pt} (h : Sr p) {i : Nat} {d : Pt} (hd : i < p.length → Ae d (E p i)) (j : Nat) (hj : i ≤ j) (hjn : j < p.length) : Ae d (E p j) := by
  rcases Nat.lt_or_eq_of_le hj with h1 | h1
  · exact (hd (by omega)).trans (h.srt i j h1 hjn).ae
  · subst h1; exact hd hjn

theorem fine {p q : List Pt} {s s' : Nat × Nat} (hp : Sr p) (hq : Sr q) (h : At p q s) (hg : Goes p q s s') : Fine p q s s' (sb (pt p q s') (pt p q s)) := by
  obtain ⟨i, k⟩ := s
  obtain ⟨hi, hk, ha, hb⟩ := h
  simp only at hi hk ha hb
  cases hg with
  | p h1 h2 =>
    simp only at h1 h2
    have e : sb (pt p q (i + 1, k)) (pt p q (i, k)) = E p i := by
      unfold pt sb ad E; exact Prod.ext (by simp only [sb]; omega) (by simp only [sb]; omega)
    rw [e]
    refine ⟨hp.ne i h1, fun j hj => hp.srt j i hj h1, hp.after (fun _ => Ae.refl (hp.ne i h1)), hq.before hk (fun h3 => hb h3 h1), hq.after (fun h3 => (h2 h3).ae), fun f h3 _ => h3 i (Nat.lt_succ_self i), fun _ => Eqv.refl (hp.ne i h1), fun h3 => by simp only at h3; omega, .inl ⟨Nat.lt_succ_self i, h1⟩, ⟨h1, hk, fun _ h3 => h2 h3, fun h3 h4 => (hb h3 h1).trans (hp.srt i (i + 1) (Nat.lt_succ_self i) h4)⟩, .inr rfl, .inl rfl⟩
  | q h1 h2 =>
    simp only at h1 h2
    have e : sb (pt p q (i, k + 1)) (pt p q (i, k)) = E q k := by
      unfold pt sb ad E; exact Prod.ext (by simp only [sb]; omega) (by simp only [sb]; omega)
    rw [e]
    refine ⟨hq.ne k h1, hp.before hi (fun h3 => ha h3 h1), hp.after (fun h3 => (h2 h3).ae), fun j hj => hq.srt j k hj h1, hq.after (fun _ => Ae.refl (hq.ne k h1)), fun f _ h3 => h3 k (Nat.lt_succ_self k), fun h3 => by simp only at h3; omega, fun _ => Eqv.refl (hq.ne k h1), .inr ⟨Nat.lt_succ_self k, h1⟩, ⟨hi, h1, fun h3 h4 => (ha h3 h1).trans (hq.srt k (k + 1) (Nat.lt_succ_self k) h4), fun _ h3 => h2 h3⟩, .inl rfl, .inr rfl⟩
  | both h1 h2 h3 =>
    simp only at h1 h2 h3
    have e : sb (pt p q (i + 1, k + 1)) (pt p q (i, k)) = ad (E p i) (E q k) := by
      unfold pt sb ad E; exact Prod.ext (by simp only [sb]; omega) (by simp only [sb]; omega)
    rw [e]
    have n1 := hp.ne i h1
    have n2 := hq.ne k h2
    have eP : Eqv (ad (E p i) (E q k)) (E p i) := by
      have a1 := cr_self (E p i)
      have a2 := cr_neg (E p i) (E q k)
      unfold Eqv Ae at h3 ⊢
      rw [cr_ad, cr_adL, hh_ad]
      omega
    have eQ : Eqv (ad (E p i) (E q k)) (E q k) := by
      have a1 := cr_self (E q k)
      have a2 := cr_neg (E p i) (E q k)
      unfold Eqv Ae at h3 ⊢
      rw [cr_ad, cr_adL, hh_ad]
      omega
    refine ⟨?_, fun j hj => (hp.srt j i hj h1).trans_ae eP.2, hp.after (fun _ => eP.1), fun j hj => (hq.srt j k hj h2).trans_ae eQ.2, hq.after (fun _ => eQ.1), fun f h4 _ => eP.1.trans_an (h4 i (Nat.lt_succ_self i)), fun _ => eP, fun _ => eQ, .inl ⟨Nat.lt_succ_self i, h1⟩, ⟨h1, h2, fun _ h4 => h3.1.trans_an (hq.srt k (k + 1) (Nat.lt_succ_self k) h4), fun _ h4 => h3.2.trans_an (hp.srt i (i + 1) (Nat.lt_succ_self i) h4)⟩, .inr rfl, .inr rfl⟩
    unfold Eqv Ae at h3
    rw [hh_ad]
    omega

theorem at0' (p q : List Pt) : At p q (run p q 0) := ⟨Nat.zero_le _, Nat.zero_le _, fun h => absurd h (by show ¬ 1 ≤ 0; omega), fun h => absurd h (by show ¬ 1 ≤ 0; omega)⟩

theorem sumR_run {p q : List Pt} (hp : Sr p) (hq : Sr q) : ∀ (fuel t : Nat), At p q (run p q t) → (p.length - (run p q t).1) + (q.length - (run p q t).2) ≤ fuel →
    ∃ N, (sumR p q fuel (run p q t).1 (run p q t).2).length = N ∧ run p q (t + N) = (p.length, q.length) ∧ ∀ j, j < N → nth (sumR p q fuel (run p q t).1 (run p q t).2) j = pt p q (run p q (t + j)) ∧ At p q (run p q (t + j)) ∧ ((run p q (t + j)).1 < p.length ∨ (run p q (t + j)).2 < q.length)
  | 0, t, h, hf => by
    have h1 := h.i
    have h2 := h.k
    exact ⟨0, rfl, Prod.ext (show (run p q t).1 = p.length by omega) (show (run p q t).2 = q.length by omega), fun j hj => by omega⟩
  | fuel + 1, t, h, hf => by
    have h1 := h.i
    have h2 := h.k
    by_cases hnot : (run p q t).1 < p.length ∨ (run p q t).2 < q.length
    · have hg := goes hp hq h hnot
      have hfi := fine hp hq h hg
      have e : nxS p q (run p q t) = run p q (t + 1) := rfl
      rw [e] at hfi
      obtain ⟨N, g1, g2, g3⟩ := sumR_run hp hq fuel (t + 1) hfi.at' (by
        have := hfi.at'.i
        have := hfi.at'.k
        have := hfi.i1
        have := hfi.k1
        have := hfi.some
        omega)
      have es : sumR p q (fuel + 1) (run p q t).1 (run p q t).2 = pt p q (run p q t) :: sumR p q fuel (run p q (t + 1)).1 (run p q (t + 1)).2 := by
        rw [sumR, if_pos hnot]
        congr 1
        have er : run p q (t + 1) = nxS p q (run p q t) := rfl
        rw [er]
        unfold nxS
        have ee : ∀ i k, crossP (ed p i) (ed q k) = cr (E p i) (E q k) := fun _ _ => rfl
        simp only [ee]
        (repeat' split) <;> rfl
      refine ⟨N + 1, by rw [es, List.length_cons, g1], by rw [show t + (N + 1) = t + 1 + N by omega]; exact g2, fun j hj => ?_⟩
      cases j with
      | zero => exact ⟨by rw [es]; rfl, h, hnot⟩
      | succ j =>
        obtain ⟨k1, k2, k3⟩ := g3 j (by omega)
        rw [show t + (j + 1) = t + 1 + j by omega]
        exact ⟨by rw [es]; exact k1, k2, k3⟩
    · refine ⟨0, by rw [sumR, if_neg hnot]; rfl, Prod.ext (show (run p q t).1 = p.length by omega) (show (run p q t).2 = q.length by omega), fun j hj => by omega⟩

structure SumSpec (p q S : List Pt) : Prop where
  sr : Sr S
  at' : ∀ t, t < S.length → ∃ i k, i ≤ p.length ∧ k ≤ q.length ∧ vt S t = ad (vt p i) (vt q k) ∧ (∀ j, j < i → An (E p j) (E S t)) ∧ (∀ j, i ≤ j → j < p.length → Ae (E S t) (E p j)) ∧
    (∀ j, j < k → An (E q j) (E S t)) ∧ (∀ j, k ≤ j → j < q.length → Ae (E S t) (E q j)) ∧ ((i < p.length ∧ Eqv (E S t) (E p i)) ∨ (k < q.length ∧ Eqv (E S t) (E q k)))
  hasP : ∀ i, i < p.length → ∃ t, t < S.length ∧ Eqv (E S t) (E p i)
  hasQ : ∀ k, k < q.length → ∃ t, t < S.length ∧ Eqv (E S t) (E q k)
  len : S.length ≤ p.length + q.length

theorem sum_spec {p q : List Pt} (hp : Sr p) (hq : Sr q) : SumSpec p q (sumF p q) := by
  obtain ⟨N, g1, g2, g3⟩ := sumR_run hp hq (p.length + q.length) 0 (at0' p q) (by show p.length - 0 + (q.length - 0) ≤ _; omega)
  have g1' : (sumF p q).length = N := g1
  have g3' : ∀ j, j < N → nth (sumF p q) j = pt p q (run p q j) ∧ At p q (run p q j) ∧ ((run p q j).1 < p.length ∨ (run p q j).2 < q.length) := fun j hj => by
    have := g3 j hj
    rw [Nat.zero_add] at this
    exact this
  have g2' : run p q N = (p.length, q.length) := by rw [Nat.zero_add] at g2; exact g2
  have hlen := sumR_len p q (p.length + q.length) 0 0
  have hlen' : (sumF p q).length ≤ p.length + q.length := hlen
  clear g1 g2 g3 hlen
  generalize sumF p q = S at *
  subst g1'
  have hpl := hp.len
  have hfine : ∀ t, t < S.length → Fine p q (run p q t) (run p q (t + 1)) (sb (pt p q (run p q (t + 1))) (pt p q (run p q t))) := fun t ht => by
    obtain ⟨_, k2, k3⟩ := g3' t ht
    exact fine hp hq k2 (goes hp hq k2 k3)
  have hle : ∀ t, t ≤ S.length → (run p q t).1 ≤ t ∧ (run p q t).2 ≤ t := by
    intro t
    induction t with
    | zero => exact fun _ => ⟨Nat.le_refl _, Nat.le_refl _⟩
    | succ t ih =>
      intro ht
      have := ih (by omega)
      have hf := hfine t (by omega)
      have := hf.i1
      have := hf.k1
      omega
  have hlN := (hle S.length (Nat.le_refl _)).1
  rw [g2'] at hlN
  simp only at hlN
  have hv : ∀ t, t ≤ S.length → vt S t = pt p q (run p q t) := fun t ht => by
    rcases Nat.lt_or_eq_of_le ht with h | rfl
    · rw [vt_lt h]; exact (g3' t h).1
    · rw [vt_n, vt_lt (by omega), (g3' 0 (by omega)).1, g2']
      show ad (vt p 0) (vt q 0) = ad (vt p p.length) (vt q q.length)
      rw [vt_n, vt_n]
  have hE : ∀ t, t < S.length → E S t = sb (pt p q (run p q (t + 1))) (pt p q (run p q t)) := fun t ht => by
    unfold E; rw [hv t (by omega), hv (t + 1) ht]
  have hF : ∀ t, t < S.length → Fine p q (run p q t) (run p q (t + 1)) (E S t) := fun t ht => by rw [hE t ht]; exact hfine t ht
  have con : ∀ t, t + 1 < S.length → An (E S t) (E S (t + 1)) := fun t ht =>
    (hF t (by omega)).nxt _ (hF (t + 1) ht).p1 (hF (t + 1) ht).q1
  refine ⟨⟨by omega, fun t ht => (hF t ht).ne, ?_⟩, fun t ht => ?_, ?_, ?_, hlen'⟩
  · intro i j hij
    induction j with
    | zero => omega
    | succ j ih =>
      intro hj
      rcases Nat.lt_or_eq_of_le (Nat.le_of_lt_succ hij) with h1 | h1
      · exact (ih h1 (by omega)).trans (con j hj)
      · subst h1; exact con i hj
  · have hf := hF t ht
    refine ⟨_, _, (g3' t ht).2.1.i, (g3' t ht).2.1.k, hv t (by omega), hf.p1, hf.p2, hf.q1, hf.q2, ?_⟩
    rcases hf.some with ⟨h1, h2⟩ | ⟨h1, h2⟩
    · exact .inl ⟨h2, hf.isP h1⟩
    · exact .inr ⟨h2, hf.isQ h1⟩
  · intro i hi
    have key : ∀ t, t ≤ S.length → i < (run p q t).1 → ∃ u, u < t ∧ (run p q u).1 = i ∧ i < (run p q (u + 1)).1 := by
      intro t
      induction t with
      | zero => intro _ h; exact absurd h (Nat.not_lt_zero _)
      | succ t ih =>
        intro ht h
        by_cases h1 : i < (run p q t).1
        · obtain ⟨u, h2, h3⟩ := ih (by omega) h1
          exact ⟨u, by omega, h3⟩
        · have := (hF t (by omega)).i1
          exact ⟨t, by omega, by omega, h⟩
    obtain ⟨u, h1, h2, h3⟩ := key S.length (Nat.le_refl _) (by rw [g2']; exact hi)
    refine ⟨u, h1, ?_⟩
    have := (hF u h1).isP (by omega)
    rw [h2] at this
    exact this
  · intro k hk
    have key : ∀ t, t ≤ S.length → k < (run p q t).2 → ∃ u, u < t ∧ (run p q u).2 = k ∧ k < (run p q (u + 1)).2 := by
      intro t
      induction t with
      | zero => intro _ h; exact absurd h (Nat.not_lt_zero _)
      | succ t ih =>
        intro ht h
        by_cases h1 : k < (run p q t).2
        · obtain ⟨u, h2, h3⟩ := ih (by omega) h1
          exact ⟨u, by omega, h3⟩
        · have := (hF t (by omega)).k1
          exact ⟨t, by omega, by omega, h⟩
    obtain ⟨u, h1, h2, h3⟩ := key S.length (Nat.le_refl _) (by rw [g2']; exact hk)
    refine ⟨u, h1, ?_⟩
    have := (hF u h1).isQ (by omega)
    rw [h2] at this
    exact this

end Go.Proofs.Ytoghphikfkdkmaa.V
