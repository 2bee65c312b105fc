/-
  Polygons, plainly: the edges of a list that is its own hull are sorted by angle.
-/
import Derived.Test.YtoghphikfkdkmaaG4
namespace Go.Proofs.Ytoghphikfkdkmaa.V
open Go Go.RowKit Go.Proofs.Ytoghphikfkdkmaa.H
set_option linter.unusedVariables false
set_option linter.unusedSimpArgs false

theorem dd_strict : ∀ {l : List Pt}, SortedL l → (dd l).Pairwise lt2
  | [], _ => .nil
  | [x], _ => List.pairwise_singleton _ _
  | x :: y :: l, h => by
    have h1 := List.pairwise_cons.1 h
    have ih := dd_strict (l := y :: l) h1.2
    unfold dd
    split
    · exact ih
    · next hxy =>
      refine List.pairwise_cons.2 ⟨fun z hz => ?_, ih⟩
      have hz' := (dd_sub (y :: l)).subset hz
      have k1 := h1.1 z hz'
      have k2 := h1.1 y (by simp)
      have k3 : z = y ∨ ¬ lt2 z y := by
        rcases List.mem_cons.1 hz' with rfl | h5
        · exact .inl rfl
        · exact .inr ((List.pairwise_cons.1 h1.2).1 z h5)
      unfold lt2 at *
      rcases k3 with rfl | k3
      · have : ¬ (x.1 = z.1 ∧ x.2 = z.2) := fun ⟨e1, e2⟩ => hxy (Prod.ext e1 e2)
        omega
      · have : ¬ (x.1 = y.1 ∧ x.2 = y.2) := fun ⟨e1, e2⟩ => hxy (Prod.ext e1 e2)
        omega

theorem rseg_inc {p : List Pt} {a : Nat} : ∀ {k : Nat}, (rseg p a k).Pairwise (fun a b => hh a < hh b) → ∀ i, i < k → hh (vt p (a + i + 1)) < hh (vt p (a + i))
  | 0, _, i, hi => absurd hi (Nat.not_lt_zero _)
  | k + 1, h, i, hi => by
    rw [rseg, List.pairwise_cons] at h
    rcases Nat.lt_or_eq_of_le (Nat.le_of_lt_succ hi) with h1 | h1
    · exact rseg_inc h.2 i h1
    · subst h1; exact h.1 _ ((rseg_mem p a i).2 ⟨i, Nat.le_refl _, rfl⟩)

theorem two_ends {R : List Pt} {x y : Pt} (h : R.head? = some x) (k : R.getLast? = some y) (hxy : x ≠ y) : 2 ≤ R.length := by
  match R, h, k with
  | [a], h, k =>
    simp only [List.head?_cons, List.getLast?_singleton, Option.some.injEq] at h k
    exact absurd (h.symm.trans k) hxy
  | a :: b :: r, _, _ => simp

theorem turn_of_trn {p : List Pt} {i : Nat} (h : 0 < trn (vt p i) (vt p (i + 1)) (vt p (i + 2))) : 0 < cr (E p i) (E p (i + 1)) := by
  rw [trn_cr] at h
  have e : sb (vt p (i + 2)) (vt p i) = ad (E p i) (E p (i + 1)) := by
    unfold E sb ad
    rw [show i + 2 = i + 1 + 1 from rfl]
    exact Prod.ext (by simp only; omega) (by simp only; omega)
  rw [e, cr_ad] at h
  have : cr (sb (vt p (i + 1)) (vt p i)) (E p i) = 0 := cr_self _
  have e5 : sb (vt p (i + 1)) (vt p i) = E p i := rfl
  rw [e5] at this h
  omega

theorem sr_of_hull {p : List Pt} (h3 : 3 ≤ p.length) (hb : Near p) (h : hullF p = p) : Sr p := by
  have hsub : ∀ x ∈ dd (V.srt p), x ∈ p := fun x hx => (srt_perm p).mem_iff.1 ((dd_sub _).subset hx)
  have hL3 : ¬ (dd (V.srt p)).length < 3 := fun hlt => by
    have e : hullF p = dd (V.srt p) := by unfold hullF hullP; rw [if_pos hlt]
    rw [e] at h; rw [h] at hlt; omega
  have hinc : (dd (V.srt p)).Pairwise (fun a b => hh a < hh b) := (dd_strict (srt_sorted p)).imp_of_mem fun {a b} ha hb' h2 => by
    have hn := hb a (hsub a ha) b (hsub b hb')
    exact (lt2_hh hn.1 hn.2).1 h2
  have hp : (chainR [] (dd (V.srt p))).tail.reverse ++ (chainR [] (dd (V.srt p)).reverse).tail.reverse = p := by
    conv => rhs; rw [← h]
    unfold hullF hullP; rw [if_neg hL3]
  generalize dd (V.srt p) = L at hL3 hinc hp
  have hrev : Dec L.reverse := by unfold Dec; rw [List.pairwise_reverse]; exact hinc
  have hnil : L ≠ [] := fun e => by rw [e] at hL3; simp at hL3
  obtain ⟨a, ha⟩ : ∃ a, L.head? = some a := by
    cases L with
    | nil => exact absurd rfl hnil
    | cons v l => exact ⟨v, rfl⟩
  obtain ⟨z, hz⟩ : ∃ z, L.getLast? = some z := ⟨_, List.getLast?_eq_some_getLast hnil⟩
  have haz : a ≠ z := by
    match L, hL3, hinc, ha, hz with
    | [], h1, _, _, _ => simp at h1
    | [b], h1, _, _, _ => simp at h1
    | b :: c :: l, _, h1, h2, h5 =>
      simp only [List.head?_cons, Option.some.injEq] at h2
      subst h2
      have : z ∈ c :: l := List.mem_of_getLast? (by simpa [List.getLast?_cons] using h5)
      have := (List.pairwise_cons.1 h1).1 z this
      rintro rfl
      omega
  have R1 : Dec (chainR [] L) := hrev.sub (by simpa using chainR_sub L [])
  have R2 : (chainR [] L.reverse).Pairwise (fun a b => hh a < hh b) := hinc.sublist (by simpa using chainR_sub L.reverse [])
  have T1 := chainR_LT L [] trivial
  have T2 := chainR_LT L.reverse [] trivial
  have ends : ∀ (l : List Pt), l ≠ [] → (chainR [] l).head? = l.getLast? ∧ (chainR [] l).getLast? = l.head? := fun l hl => by
    constructor
    · obtain ⟨l', v, e⟩ : ∃ l' v, l = l' ++ [v] := ⟨l.dropLast, l.getLast hl, (List.dropLast_concat_getLast hl).symm⟩
      rw [e, chainR_head]; simp
    · cases l with
      | nil => exact absurd rfl hl
      | cons v l => rw [chainR_last0]; rfl
  obtain ⟨e1, e2⟩ := ends L hnil
  obtain ⟨e3, e4⟩ := ends L.reverse (by simpa using hnil)
  rw [List.getLast?_reverse] at e3
  rw [List.head?_reverse] at e4
  rw [hz] at e1 e4
  rw [ha] at e2 e3
  generalize chainR [] L = R at *
  generalize chainR [] L.reverse = Q at *
  have lR := two_ends e1 e2 (Ne.symm haz)
  have lQ := two_ends e3 e4 haz
  obtain ⟨R', rfl⟩ : ∃ R', R = z :: R' := by
    cases R with
    | nil => simp at lR
    | cons b r => simp only [List.head?_cons, Option.some.injEq] at e1; exact ⟨r, by rw [e1]⟩
  obtain ⟨Q', rfl⟩ : ∃ Q', Q = a :: Q' := by
    cases Q with
    | nil => simp at lQ
    | cons b r => simp only [List.head?_cons, Option.some.injEq] at e3; exact ⟨r, by rw [e3]⟩
  rw [List.tail_cons, List.tail_cons] at hp
  simp only [List.length_cons] at lR lQ
  have hn : p.length = R'.length + Q'.length := by rw [← hp]; simp
  have g1 : ∀ i, i < R'.length → vt p i = R'.reverse[i]?.getD (0, 0) := fun i hi => by
    rw [vt_lt (by omega), nth, List.getD_eq_getElem?_getD, ← hp, List.getElem?_append_left (by simpa using hi)]
  have g2 : ∀ i, i < Q'.length → vt p (R'.length + i) = Q'.reverse[i]?.getD (0, 0) := fun i hi => by
    rw [vt_lt (by omega), nth, List.getD_eq_getElem?_getD, ← hp, List.getElem?_append_right (by simp)]
    congr 2
    simp
  have q0 : vt p R'.length = z := by
    have := g2 0 (by omega)
    rw [Nat.add_zero] at this
    rw [this, ← List.head?_eq_getElem?, List.head?_reverse]
    have : Q'.getLast? = some z := by
      cases Q' with
      | nil => simp at lQ
      | cons b r => simpa [List.getLast?_cons] using e4
    rw [this]; rfl
  have r0 : vt p p.length = a := by
    rw [vt_n, g1 0 (by omega), ← List.head?_eq_getElem?, List.head?_reverse]
    have : R'.getLast? = some a := by
      cases R' with
      | nil => simp at lR
      | cons b r => simpa [List.getLast?_cons] using e2
    rw [this]; rfl
  have hR : z :: R' = rseg p 0 R'.length := rseg_eq (by simp) fun i hi => by
    rw [Nat.zero_add, List.reverse_cons]
    rcases Nat.lt_or_eq_of_le hi with h1 | h1
    · rw [List.getElem?_append_left (by simpa using h1), g1 i h1, List.getElem?_eq_getElem (by simpa using h1)]; rfl
    · subst h1
      rw [List.getElem?_append_right (by simp), q0]; simp
  have hQ : a :: Q' = rseg p R'.length Q'.length := rseg_eq (by simp) fun i hi => by
    rw [List.reverse_cons]
    rcases Nat.lt_or_eq_of_le hi with h1 | h1
    · rw [List.getElem?_append_left (by simpa using h1), g2 i h1, List.getElem?_eq_getElem (by simpa using h1)]; rfl
    · subst h1
      rw [List.getElem?_append_right (by simp), ← hn, r0]; simp
  rw [hR] at R1 T1
  rw [hQ] at R2 T2
  have up : ∀ i, i < R'.length → 0 < hh (E p i) := fun i hi => by
    have := (rseg_dec p 0 _).1 R1 i hi
    have e := hh_step p i
    rw [Nat.zero_add] at this
    omega
  have dn : ∀ i, R'.length ≤ i → i < p.length → hh (E p i) < 0 := fun i h1 h2 => by
    have := rseg_inc R2 (i - R'.length) (by omega)
    rw [show R'.length + (i - R'.length) = i by omega] at this
    have e := hh_step p i
    omega
  have con : ∀ i, i + 1 < p.length → An (E p i) (E p (i + 1)) := fun i hi => by
    rcases Nat.lt_trichotomy (i + 1) R'.length with h1 | h1 | h1
    · have := (rseg_lt p 0 _).1 T1 i (by omega)
      rw [Nat.zero_add] at this
      exact .inr ⟨.inl ⟨up i (by omega), up (i + 1) h1⟩, turn_of_trn this⟩
    · exact .inl ⟨up i (by omega), dn (i + 1) (by omega) hi⟩
    · have := (rseg_lt p R'.length _).1 T2 (i - R'.length) (by omega)
      rw [show R'.length + (i - R'.length) = i by omega] at this
      exact .inr ⟨.inr ⟨dn i (by omega) (by omega), dn (i + 1) (by omega) hi⟩, turn_of_trn this⟩
  refine ⟨h3, fun k hk => ?_, ?_⟩
  · rcases Nat.lt_or_ge k R'.length with h1 | h1
    · have := up k h1; omega
    · have := dn k h1 hk; omega
  · intro i j hij
    induction j with
    | zero => omega
    | succ j ih =>
      intro hj
      rcases Nat.lt_or_eq_of_le (Nat.le_of_lt_succ hij) with h1 | h1
      · exact (ih h1 (by omega)).trans (con j hj)
      · subst h1; exact con i hj

theorem near_of_bd {p : List Pt} (h : ∀ q ∈ p, Bd2 100000 q.1 q.2) : Near p := fun a ha b hb => by
  obtain ⟨⟨_, _⟩, _⟩ := h a ha
  obtain ⟨⟨_, _⟩, _⟩ := h b hb
  omega

theorem valid_sr {p : List Pt} (h : validF p = true) : Sr p := by
  obtain ⟨h1, h2, h3, h4⟩ := validF_spec h
  exact sr_of_hull h1 (near_of_bd fun q hq => (h3 q hq).mono (by omega)) h4

theorem valid_of_sr {p : List Pt} (h : Sr p) (h2 : p.length ≤ 32) (h3 : p.any (fun q => !okB q.1 q.2) = false) : validF p = true := by
  unfold validF
  have hl := h.len
  have hb : Near p := near_of_bd fun q hq => (okB_bd (q := q) (by
    have := List.any_eq_false.1 h3 q hq
    simpa using this)).mono (by omega)
  rw [h3, decide_eq_false (by omega), decide_eq_false (by omega), decide_eq_true (h.hull hb)]
  rfl

end Go.Proofs.Ytoghphikfkdkmaa.V
