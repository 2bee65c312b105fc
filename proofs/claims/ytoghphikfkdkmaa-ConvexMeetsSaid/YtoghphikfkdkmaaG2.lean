/-
  Convex polygons, plainly: edges sorted by angle, and vertices on the left of all edges.
-/
import Derived.Test.YtoghphikfkdkmaaG1
import Derived.Test.YtoghphikfkdkmaaV9
namespace Go.Proofs.Ytoghphikfkdkmaa.V
open Go Go.RowKit Go.Proofs.Ytoghphikfkdkmaa.H
set_option linter.unusedVariables false
set_option linter.unusedSimpArgs false

/-- a closed path whose edges are sorted by angle: where the edges begin and end to lie left of a direction -/
theorem supp {n : Nat} {E w : Nat → Pt} (hw : ∀ i, i < n → E i = sb (w (i + 1)) (w i)) (hc : w n = w 0) (hs : ∀ i j, i < j → j < n → An (E i) (E j))
    {e : Pt} (he : hh e ≠ 0) {k : Nat} (hk : k ≤ n) (h1 : ∀ i, i < k → Ae (E i) e) (h2 : ∀ i, k ≤ i → i < n → Ae e (E i)) (j : Nat) (hj : j ≤ n) : cr e (w k) ≤ cr e (w j) := by
  have step : ∀ i, i < n → cr e (w (i + 1)) = cr e (w i) + cr e (E i) := fun i hi => by rw [hw i hi, cr_sb]; omega
  have hc' : cr e (w n) = cr e (w 0) := by rw [hc]
  rcases Int.lt_or_gt_of_ne he with hn | hp
  · have A : ∀ i, k ≤ i → i < n → 0 ≤ cr e (E i) := fun i a b => by
      have := h2 i a b; unfold Ae at this; omega
    have B : ∀ i m, i < m → m < k → 0 < cr e (E m) → 0 < cr e (E i) := fun i m a b h => by
      have x := h1 m b
      have y := hs i m a (by omega)
      have z := cr_neg e (E m)
      unfold Ae at x
      unfold An at y
      exact left_was hn (a := E i) (b := E m) (by omega) (by omega) (by omega) (by omega)
    have hup : ∀ b, k ≤ b → b ≤ n → cr e (w k) ≤ cr e (w b) := fun b a1 a2 => rises (G := fun i => cr e (w i)) b a1 (fun i h3 h4 => by
      have := step i (by omega); have := A i h3 (by omega); omega)
    rcases Nat.lt_or_ge j k with hjk | hjk
    · by_cases hall : ∀ i, j ≤ i → i < k → cr e (E i) ≤ 0
      · exact falls (G := fun i => cr e (w i)) k (by omega) (fun i h3 h4 => by have := step i (by omega); have := hall i h3 h4; omega)
      · obtain ⟨i, hi⟩ := Classical.not_forall.1 hall
        simp only [Classical.not_imp] at hi
        obtain ⟨i1, i2, i3⟩ := hi
        have := rises (G := fun i => cr e (w i)) (a := 0) j (Nat.zero_le _) (fun m h3 h4 => by
          have := step m (by omega); have := B m i (by omega) i2 (by omega); omega)
        have := hup n hk (Nat.le_refl _)
        omega
    · exact hup j hjk hj
  · have A : ∀ i, i < k → cr e (E i) ≤ 0 := fun i a => by
      have := h1 i a; have := cr_neg e (E i); unfold Ae at *; omega
    have B : ∀ i m, k ≤ i → i < m → m < n → cr e (E i) < 0 → cr e (E m) < 0 := fun i m a b c h => by
      have x := h2 i a (by omega)
      have y := hs i m b c
      unfold Ae at x
      unfold An at y
      exact right_stays hp (a := E i) (b := E m) (by omega) (by omega) (by omega) (by omega)
    have hdn : ∀ b, b ≤ k → cr e (w k) ≤ cr e (w b) := fun b a1 => falls (G := fun i => cr e (w i)) k a1 (fun i h3 h4 => by
      have := step i (by omega); have := A i h4; omega)
    rcases Nat.lt_or_ge j k with hjk | hjk
    · exact hdn j (by omega)
    · by_cases hall : ∀ i, k ≤ i → i < j → 0 ≤ cr e (E i)
      · exact rises (G := fun i => cr e (w i)) j hjk (fun i h3 h4 => by have := step i (by omega); have := hall i h3 h4; omega)
      · obtain ⟨i, hi⟩ := Classical.not_forall.1 hall
        simp only [Classical.not_imp] at hi
        obtain ⟨i1, i2, i3⟩ := hi
        have := falls (G := fun i => cr e (w i)) (a := j) n hj (fun m h3 h4 => by
          have := step m (by omega); have := B i m i1 (by omega) h4 (by omega); omega)
        have := hdn 0 (Nat.zero_le _)
        omega

/-- the same for an edge, strictly -/
theorem suppS {n : Nat} {E w : Nat → Pt} (hw : ∀ i, i < n → E i = sb (w (i + 1)) (w i)) (hc : w n = w 0) (hs : ∀ i j, i < j → j < n → An (E i) (E j))
    {k : Nat} (hk : k < n) (he : hh (E k) ≠ 0) (j : Nat) (hj : j < n) (n1 : j ≠ k) (n2 : j ≠ k + 1) (n3 : k + 1 = n → j ≠ 0) : cr (E k) (w k) < cr (E k) (w j) := by
  generalize hee : E k = e at he
  have step : ∀ i, i < n → cr e (w (i + 1)) = cr e (w i) + cr e (E i) := fun i hi => by rw [hw i hi, cr_sb]; omega
  have hc' : cr e (w n) = cr e (w 0) := by rw [hc]
  have hkk : cr e (w (k + 1)) = cr e (w k) := by rw [step k hk, hee, cr_self]; omega
  rcases Int.lt_or_gt_of_ne he with hn | hp
  · have A : ∀ i, k < i → i < n → 0 < cr e (E i) := fun i a b => by
      have := hs k i a b; rw [hee] at this; unfold An at this; omega
    have B : ∀ i m, i < m → m < k → 0 ≤ cr e (E m) → 0 < cr e (E i) := fun i m a b h => by
      have x := hs m k b hk
      have y := hs i m a (by omega)
      have z := cr_neg e (E m)
      rw [hee] at x
      unfold An at x
      unfold An at y
      exact left_was hn (a := E i) (b := E m) (by omega) (by omega) (by omega) (by omega)
    have hup : ∀ b, k + 1 < b → b ≤ n → cr e (w k) < cr e (w b) := fun b a1 a2 => by
      have := risesS (G := fun i => cr e (w i)) (a := k + 1) b a1 (fun i h3 h4 => by
        have := step i (by omega); have := A i (by omega) (by omega); omega)
      have := this
      omega
    rcases Nat.lt_or_ge j k with hjk | hjk
    · by_cases hall : ∀ i, j ≤ i → i < k → cr e (E i) < 0
      · exact fallsS (G := fun i => cr e (w i)) k (by omega) (fun i h3 h4 => by have := step i (by omega); have := hall i h3 h4; omega)
      · obtain ⟨i, hi⟩ := Classical.not_forall.1 hall
        simp only [Classical.not_imp] at hi
        obtain ⟨i1, i2, i3⟩ := hi
        have h0 : cr e (w k) ≤ cr e (w 0) := by
          rcases Nat.lt_or_ge (k + 1) n with h | h
          · have := hup n h (Nat.le_refl _); omega
          · have : k + 1 = n := by omega
            rw [← hc', ← this]; omega
        rcases Nat.eq_zero_or_pos j with hj0 | hj0
        · subst hj0
          rcases Nat.lt_or_ge (k + 1) n with h | h
          · have := hup n h (Nat.le_refl _); omega
          · exact absurd rfl (n3 (by omega))
        · have := risesS (G := fun i => cr e (w i)) (a := 0) j hj0 (fun m h3 h4 => by
            have := step m (by omega); have := B m i (by omega) i2 (by omega); omega)
          have := this
          omega
    · exact hup j (by omega) (by omega)
  · have A : ∀ i, i < k → cr e (E i) < 0 := fun i a => by
      have := hs i k a hk; rw [hee] at this; have := cr_neg e (E i); unfold An at *; omega
    have B : ∀ i m, k < i → i < m → m < n → cr e (E i) ≤ 0 → cr e (E m) < 0 := fun i m a b c h => by
      have x := hs k i a (by omega)
      have y := hs i m b c
      rw [hee] at x
      unfold An at x
      unfold An at y
      exact right_stays hp (a := E i) (b := E m) (by omega) (by omega) (by omega) (by omega)
    have hdn : ∀ b, b ≤ k → cr e (w k) ≤ cr e (w b) := fun b a1 => falls (G := fun i => cr e (w i)) k a1 (fun i h3 h4 => by
      have := step i (by omega); have := A i h4; omega)
    rcases Nat.lt_or_ge j k with hjk | hjk
    · exact fallsS (G := fun i => cr e (w i)) k hjk (fun i h3 h4 => by have := step i (by omega); have := A i h4; omega)
    · by_cases hall : ∀ i, k + 1 ≤ i → i < j → 0 < cr e (E i)
      · have := risesS (G := fun i => cr e (w i)) (a := k + 1) j (by omega) (fun i h3 h4 => by have := step i (by omega); have := hall i h3 h4; omega)
        have := this
        omega
      · obtain ⟨i, hi⟩ := Classical.not_forall.1 hall
        simp only [Classical.not_imp] at hi
        obtain ⟨i1, i2, i3⟩ := hi
        have := fallsS (G := fun i => cr e (w i)) (a := j) n hj (fun m h3 h4 => by
          have := step m (by omega); have := B i m (by omega) (by omega) h4 (by omega); omega)
        have := hdn 0 (Nat.zero_le _)
        skip
        omega

/-! polygons -/
def vt (p : List Pt) (k : Nat) : Pt := nth p (k % p.length)
def E (p : List Pt) (k : Nat) : Pt := sb (vt p (k + 1)) (vt p k)

theorem vt_lt {p : List Pt} {k : Nat} (h : k < p.length) : vt p k = nth p k := by unfold vt; rw [Nat.mod_eq_of_lt h]
theorem vt_n (p : List Pt) : vt p p.length = vt p 0 := by unfold vt; rw [Nat.mod_self, Nat.zero_mod]
theorem vt_nx (p : List Pt) (k : Nat) : vt p (k + 1) = nx p k := rfl
theorem E_eq {p : List Pt} {k : Nat} (h : k < p.length) : E p k = sb (nx p k) (nth p k) := by unfold E; rw [vt_nx, vt_lt h]
theorem side_E {p : List Pt} {k : Nat} (h : k < p.length) (x : Pt) : side p x k = cr (E p k) x - cr (E p k) (vt p k) := by
  unfold side; rw [trn_cr, ← E_eq h, cr_sb, vt_lt h]

structure Sr (p : List Pt) : Prop where
  len : 3 ≤ p.length
  ne : ∀ k, k < p.length → hh (E p k) ≠ 0
  srt : ∀ i j, i < j → j < p.length → An (E p i) (E p j)

structure CV (p : List Pt) : Prop where
  len : 3 ≤ p.length
  left : ∀ k j, k < p.length → j < p.length → j ≠ k → j ≠ (k + 1) % p.length → 0 < side p (nth p j) k
  low : ∀ j, 0 < j → j < p.length → hh (nth p 0) < hh (nth p j)

theorem Sr.supp {p : List Pt} (h : Sr p) {e : Pt} (he : hh e ≠ 0) {k : Nat} (hk : k ≤ p.length) (h1 : ∀ i, i < k → Ae (E p i) e) (h2 : ∀ i, k ≤ i → i < p.length → Ae e (E p i)) (j : Nat) (hj : j ≤ p.length) : cr e (vt p k) ≤ cr e (vt p j) :=
  V.supp (E := E p) (w := vt p) (fun i _ => rfl) (vt_n p) h.srt he hk h1 h2 j hj

/-- the edges first rise, then fall -/
theorem Sr.stays {p : List Pt} (h : Sr p) {i j : Nat} (hij : i ≤ j) (hj : j < p.length) (hi : hh (E p i) < 0) : hh (E p j) < 0 := by
  rcases Nat.lt_or_eq_of_le hij with h1 | rfl
  · have := h.srt i j h1 hj; unfold An at this; omega
  · exact hi

theorem hh_step (p : List Pt) (i : Nat) : hh (vt p (i + 1)) = hh (vt p i) + hh (E p i) := by unfold E; rw [hh_sb]; omega

theorem Sr.low {p : List Pt} (h : Sr p) (j : Nat) (h0 : 0 < j) (hj : j < p.length) : hh (nth p 0) < hh (nth p j) := by
  rw [← vt_lt hj, ← vt_lt (by omega : 0 < p.length)]
  by_cases hall : ∀ i, 0 ≤ i → i < j → 0 < hh (E p i)
  · exact risesS (G := fun i => hh (vt p i)) j h0 (fun i h3 h4 => by have := hh_step p i; have := hall i h3 h4; omega)
  · obtain ⟨i, hi⟩ := Classical.not_forall.1 hall
    simp only [Classical.not_imp] at hi
    obtain ⟨i1, i2, i3⟩ := hi
    have h4 := h.ne i (by omega)
    have := fallsS (G := fun i => hh (vt p i)) (a := j) p.length hj (fun m h5 h6 => by
      have := hh_step p m; have := h.stays (i := i) (j := m) (by omega) h6 (by omega); omega)
    have := this
    rw [vt_n] at this
    exact this

theorem Sr.cv {p : List Pt} (h : Sr p) : CV p := by
  refine ⟨h.len, fun k j hk hj n1 n2 => ?_, h.low⟩
  rw [side_E hk, ← vt_lt hj]
  have hl := h.len
  have := suppS (E := E p) (w := vt p) (fun i _ => rfl) (vt_n p) h.srt hk (h.ne k hk) j hj n1 (fun e => by
      subst e; rw [Nat.mod_eq_of_lt hj] at n2; exact n2 rfl) (fun e e0 => by
      subst e0; rw [e, Nat.mod_self] at n2; exact n2 rfl)
  omega

/-- the turn at a vertex -/
theorem CV.turn {p : List Pt} (h : CV p) {k : Nat} (hk : k < p.length) : 0 < cr (E p k) (E p ((k + 1) % p.length)) := by
  have hl := h.len
  have hk1 : (k + 1) % p.length < p.length := Nat.mod_lt _ (by omega)
  have hk2 : ((k + 1) % p.length + 1) % p.length < p.length := Nat.mod_lt _ (by omega)
  have key := h.left k (((k + 1) % p.length + 1) % p.length) hk hk2 (fun e => by
      rcases Nat.lt_or_ge (k + 1) p.length with a | a
      · rw [Nat.mod_eq_of_lt a] at e
        rcases Nat.lt_or_ge (k + 1 + 1) p.length with b | b
        · rw [Nat.mod_eq_of_lt b] at e; omega
        · have : k + 1 + 1 = p.length := by omega
          rw [this, Nat.mod_self] at e; omega
      · have : k + 1 = p.length := by omega
        rw [this, Nat.mod_self, Nat.mod_eq_of_lt (by omega)] at e; omega) (fun e => by
      rcases Nat.lt_or_ge ((k + 1) % p.length + 1) p.length with b | b
      · rw [Nat.mod_eq_of_lt b] at e; omega
      · have : (k + 1) % p.length + 1 = p.length := by omega
        rw [this, Nat.mod_self] at e; omega)
  rw [side_E hk] at key
  have e1 : E p ((k + 1) % p.length) = sb (nth p (((k + 1) % p.length + 1) % p.length)) (vt p (k + 1)) := by
    rw [E_eq hk1]; rfl
  have e2 : cr (E p k) (vt p (k + 1)) = cr (E p k) (vt p k) := by
    have : cr (E p k) (E p k) = 0 := cr_self _
    have e3 : cr (E p k) (E p k) = cr (E p k) (vt p (k + 1)) - cr (E p k) (vt p k) := by
      conv => lhs; arg 2; unfold E
      rw [cr_sb]
    omega
  rw [e1, cr_sb, e2]
  omega

/-- short edges do not lie on the border of the halves -/
theorem ne_of_hh {a b : Pt} (h : a ≠ b) (h1 : -1000000 < a.1 - b.1) (h2 : a.1 - b.1 < 1000000) : hh (sb a b) ≠ 0 := by
  rw [hh_sb]
  unfold hh
  intro e
  apply h
  have e1 : a.2 = b.2 := by omega
  have e2 : a.1 = b.1 := by omega
  exact Prod.ext e2 e1

/-- the points lie near each other -/
def Near (p : List Pt) : Prop := ∀ a ∈ p, ∀ b ∈ p, -1000000 < a.1 - b.1 ∧ a.1 - b.1 < 1000000

theorem CV.sr {p : List Pt} (h : CV p) (hb : Near p) : Sr p := by
  have hl := h.len
  have hvm : ∀ k, vt p k ∈ p := fun k => nth_mem (Nat.mod_lt _ (by omega))
  have ne : ∀ k, k < p.length → hh (E p k) ≠ 0 := fun k hk => by
    refine ne_of_hh (fun e => ?_) (hb _ (hvm _) _ (hvm _)).1 (hb _ (hvm _) _ (hvm _)).2
    have := h.turn hk
    have e0 : E p k = (0, 0) := by unfold E sb; rw [e]; simp
    rw [e0] at this
    unfold cr at this
    simp at this
  have turn : ∀ i, i + 1 < p.length → 0 < cr (E p i) (E p (i + 1)) := fun i hi => by
    have := h.turn (k := i) (by omega)
    rw [Nat.mod_eq_of_lt hi] at this
    exact this
  have loc : ∀ i, i + 1 < p.length → hh (E p i) < 0 → hh (E p (i + 1)) < 0 := fun i hi hn => by
    have h2 := ne (i + 1) hi
    refine Int.lt_of_not_ge fun hge => ?_
    -- the vertex between would be a lowest one
    have k1 : ∀ k, k < p.length → cr (E p k) (vt p k) ≤ cr (E p k) (vt p 0) := fun k hk => by
      by_cases h3 : 0 = k
      · subst h3; exact Int.le_refl _
      by_cases h4 : 0 = (k + 1) % p.length
      · have : vt p 0 = vt p (k + 1) := by unfold vt; rw [← h4, Nat.zero_mod]
        rw [this]
        have : cr (E p k) (E p k) = 0 := cr_self _
        have e3 : cr (E p k) (E p k) = cr (E p k) (vt p (k + 1)) - cr (E p k) (vt p k) := by
          conv => lhs; arg 2; unfold E
          rw [cr_sb]
        omega
      · have := h.left k 0 hk (by omega) h3 h4
        rw [side_E hk, ← vt_lt (by omega : 0 < p.length)] at this
        omega
    have a1 := k1 i (by omega)
    have a2 := k1 (i + 1) hi
    have e2 : cr (E p i) (vt p (i + 1)) = cr (E p i) (vt p i) := by
      have : cr (E p i) (E p i) = 0 := cr_self _
      have e3 : cr (E p i) (E p i) = cr (E p i) (vt p (i + 1)) - cr (E p i) (vt p i) := by
        conv => lhs; arg 2; unfold E
        rw [cr_sb]
      omega
    have t := turn i hi
    have pk := pluck (E p i) (E p (i + 1)) (sb (vt p 0) (vt p (i + 1)))
    rw [cr_neg (E p i) (sb _ _), cr_sb, cr_sb, hh_sb] at pk
    have hlow := h.low (i + 1) (by omega) hi
    rw [← vt_lt hi, ← vt_lt (by omega : 0 < p.length)] at hlow
    have b1 := mpn t (show hh (vt p 0) - hh (vt p (i + 1)) < 0 by omega)
    have b2 := npn (show 0 ≤ cr (E p (i + 1)) (vt p 0) - cr (E p (i + 1)) (vt p (i + 1)) by omega) (Int.le_of_lt hn)
    have b3 := nnp (show -(cr (E p i) (vt p 0) - cr (E p i) (vt p (i + 1))) ≤ 0 by omega) hge
    omega
  refine ⟨hl, ne, ?_⟩
  have con : ∀ i, i + 1 < p.length → An (E p i) (E p (i + 1)) := fun i hi => by
    have a1 := ne i (by omega)
    have a2 := ne (i + 1) hi
    have a3 := turn i hi
    have a4 := loc i hi
    unfold An
    omega
  intro i j hij
  induction j with
  | zero => omega
  | succ j ih =>
    intro hj
    rcases Nat.lt_or_eq_of_le (Nat.le_of_lt_succ hij) with h1 | h1
    · exact (ih h1 (by omega)).trans (con j hj)
    · subst h1; exact con i hj

end Go.Proofs.Ytoghphikfkdkmaa.V
