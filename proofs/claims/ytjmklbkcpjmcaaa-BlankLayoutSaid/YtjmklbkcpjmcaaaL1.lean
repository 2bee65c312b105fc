/-
  Guillotine cuts, plainly: the greatest worth of a rectangle.
  Guillotine cuts, plainly: the plan of the rule.
  Guillotine cuts, plainly: reading plans.
  Grids, plainly: the first one in order that is good.
  Plain laws: plans that are read, and what is cut, counted.
-/
import Derived.Test.YtjmklbkcpjmcaaaProg
namespace Go.Proofs.Ytjmklbkcpjmcaaa.LL
set_option linter.unusedVariables false
set_option linter.unusedSimpArgs false

abbrev It := Int × Int × Int
def mx (a b : Int) : Int := if b > a then b else a
theorem mx_le {a b c : Int} : mx a b ≤ c ↔ a ≤ c ∧ b ≤ c := by unfold mx; split <;> omega
theorem le_mx {a b c : Int} : c ≤ mx a b ↔ c ≤ a ∨ c ≤ b := by unfold mx; split <;> omega

def fitsI (i : It) (w h : Nat) : Bool := decide (i.1 ≤ w) && decide (i.2.1 ≤ h)
def bestI (l : List It) (w h : Nat) (b : Int) : Int := l.foldl (fun b i => if fitsI i w h then mx b i.2.2 else b) b
/-- the most of b and of the first k numbers -/
def most (f : Nat → Int) (b : Int) : Nat → Int
  | 0 => b
  | k + 1 => mx (most f b k) (f k)

theorem most_le {f : Nat → Int} {b c : Int} : ∀ {k : Nat}, most f b k ≤ c ↔ b ≤ c ∧ ∀ j, j < k → f j ≤ c
  | 0 => ⟨fun h => ⟨h, fun j hj => absurd hj (Nat.not_lt_zero _)⟩, fun h => h.1⟩
  | k + 1 => by
    rw [most, mx_le, most_le]
    constructor
    · rintro ⟨⟨h1, h2⟩, h3⟩
      refine ⟨h1, fun j hj => ?_⟩
      rcases Nat.lt_succ_iff_lt_or_eq.1 hj with h | rfl
      · exact h2 j h
      · exact h3
    · rintro ⟨h1, h2⟩
      exact ⟨⟨h1, fun j hj => h2 j (by omega)⟩, h2 k (by omega)⟩
theorem le_most {f : Nat → Int} {b : Int} {k : Nat} : b ≤ most f b k ∧ ∀ j, j < k → f j ≤ most f b k := most_le.1 (Int.le_refl _)
theorem most_cases {f : Nat → Int} {b : Int} : ∀ k, most f b k = b ∨ ∃ j, j < k ∧ most f b k = f j
  | 0 => .inl rfl
  | k + 1 => by
    rw [most]
    unfold mx
    split
    · exact .inr ⟨k, Nat.lt_succ_self k, rfl⟩
    · rcases most_cases k with h | ⟨j, h1, h2⟩
      · exact .inl h
      · exact .inr ⟨j, by omega, h2⟩
theorem most_congr {f g : Nat → Int} {b : Int} : ∀ {k : Nat}, (∀ j, j < k → f j = g j) → most f b k = most g b k
  | 0, _ => rfl
  | k + 1, h => by rw [most, most, most_congr (fun j hj => h j (by omega)), h k (by omega)]

theorem bestI_le {l : List It} {w h : Nat} {b c : Int} : bestI l w h b ≤ c ↔ b ≤ c ∧ ∀ i ∈ l, fitsI i w h = true → i.2.2 ≤ c := by
  unfold bestI
  induction l generalizing b with
  | nil => simp
  | cons x l ih =>
    rw [List.foldl_cons, ih]
    constructor
    · rintro ⟨h1, h2⟩
      split at h1
      · next hx =>
        rw [mx_le] at h1
        refine ⟨h1.1, fun i hi hf => ?_⟩
        rcases List.mem_cons.1 hi with rfl | hi
        · exact h1.2
        · exact h2 i hi hf
      · next hx =>
        refine ⟨h1, fun i hi hf => ?_⟩
        rcases List.mem_cons.1 hi with rfl | hi
        · exact absurd hf hx
        · exact h2 i hi hf
    · rintro ⟨h1, h2⟩
      refine ⟨?_, fun i hi hf => h2 i (List.mem_cons_of_mem _ hi) hf⟩
      split
      · next hx => exact mx_le.2 ⟨h1, h2 x (by simp) hx⟩
      · exact h1
theorem le_bestI {l : List It} {w h : Nat} {b : Int} : b ≤ bestI l w h b ∧ ∀ i ∈ l, fitsI i w h = true → i.2.2 ≤ bestI l w h b := bestI_le.1 (Int.le_refl _)
theorem bestI_cases {l : List It} {w h : Nat} {b : Int} : bestI l w h b = b ∨ ∃ i ∈ l, fitsI i w h = true ∧ bestI l w h b = i.2.2 := by
  unfold bestI
  induction l generalizing b with
  | nil => exact .inl rfl
  | cons x l ih =>
    rw [List.foldl_cons]
    rcases ih (b := if fitsI x w h = true then mx b x.2.2 else b) with h1 | ⟨i, h1, h2, h3⟩
    · rw [h1]
      split
      · next hx =>
        unfold mx
        split
        · exact .inr ⟨x, by simp, hx, rfl⟩
        · exact .inl rfl
      · exact .inl rfl
    · exact .inr ⟨i, List.mem_cons_of_mem _ h1, h2, h3⟩

/-- the greatest worth of a rectangle, as the code finds it -/
def Wf (l : List It) : Nat → Nat → Nat → Int
  | 0, _, _ => 0
  | n + 1, w, h => most (fun y => Wf l n w (y + 1) + Wf l n w (h - (y + 1))) (most (fun x => Wf l n (x + 1) h + Wf l n (w - (x + 1)) h) (bestI l w h 0) (w / 2)) (h / 2)
def W (l : List It) (w h : Nat) : Int := Wf l (w + h) w h

theorem Wf_fuel (l : List It) : ∀ (n m w h : Nat), 0 < w → 0 < h → w + h ≤ n → w + h ≤ m → Wf l n w h = Wf l m w h
  | 0, m, w, h, hw, hh, h1, h2 => by omega
  | n + 1, 0, w, h, hw, hh, h1, h2 => by omega
  | n + 1, m + 1, w, h, hw, hh, h1, h2 => by
    rw [Wf, Wf]
    have e1 : most (fun x => Wf l n (x + 1) h + Wf l n (w - (x + 1)) h) (bestI l w h 0) (w / 2) = most (fun x => Wf l m (x + 1) h + Wf l m (w - (x + 1)) h) (bestI l w h 0) (w / 2) := most_congr fun x hx => by
      rw [Wf_fuel l n m (x + 1) h (by omega) hh (by omega) (by omega), Wf_fuel l n m (w - (x + 1)) h (by omega) hh (by omega) (by omega)]
    rw [e1]
    exact most_congr fun y hy => by
      rw [Wf_fuel l n m w (y + 1) hw (by omega) (by omega) (by omega), Wf_fuel l n m w (h - (y + 1)) hw (by omega) (by omega) (by omega)]

theorem W_eq (l : List It) {w h : Nat} (hw : 0 < w) (hh : 0 < h) : W l w h = most (fun y => W l w (y + 1) + W l w (h - (y + 1))) (most (fun x => W l (x + 1) h + W l (w - (x + 1)) h) (bestI l w h 0) (w / 2)) (h / 2) := by
  unfold W
  obtain ⟨n, hn⟩ : ∃ n, w + h = n + 1 := ⟨w + h - 1, by omega⟩
  rw [hn, Wf]
  have e1 : most (fun x => Wf l n (x + 1) h + Wf l n (w - (x + 1)) h) (bestI l w h 0) (w / 2) = most (fun x => Wf l (x + 1 + h) (x + 1) h + Wf l (w - (x + 1) + h) (w - (x + 1)) h) (bestI l w h 0) (w / 2) := most_congr fun x hx => by
    rw [Wf_fuel l n _ (x + 1) h (by omega) hh (by omega) (Nat.le_refl _), Wf_fuel l n _ (w - (x + 1)) h (by omega) hh (by omega) (Nat.le_refl _)]
  rw [e1]
  exact most_congr fun y hy => by
    rw [Wf_fuel l n _ w (y + 1) hw (by omega) (by omega) (Nat.le_refl _), Wf_fuel l n _ w (h - (y + 1)) hw (by omega) (by omega) (Nat.le_refl _)]

/-- what is known of it: it is the least number that is at least the worth of an item that fits and of the parts of a cut -/
theorem W_le (l : List It) {w h : Nat} {c : Int} (hw : 0 < w) (hh : 0 < h) : W l w h ≤ c ↔ 0 ≤ c ∧ (∀ i ∈ l, fitsI i w h = true → i.2.2 ≤ c) ∧ (∀ x, 0 < x → x < w → W l x h + W l (w - x) h ≤ c) ∧ ∀ y, 0 < y → y < h → W l w y + W l w (h - y) ≤ c := by
  rw [W_eq l hw hh, most_le, most_le, bestI_le]
  constructor
  · rintro ⟨⟨⟨h1, h2⟩, h3⟩, h4⟩
    refine ⟨h1, h2, fun x x0 xw => ?_, fun y y0 yh => ?_⟩
    · rcases Nat.lt_or_ge (w / 2) x with h5 | h5
      · have := h3 (w - x - 1) (by omega)
        rw [show w - x - 1 + 1 = w - x by omega, show w - (w - x) = x by omega] at this
        omega
      · have := h3 (x - 1) (by omega)
        rw [show x - 1 + 1 = x by omega] at this
        exact this
    · rcases Nat.lt_or_ge (h / 2) y with h5 | h5
      · have := h4 (h - y - 1) (by omega)
        rw [show h - y - 1 + 1 = h - y by omega, show h - (h - y) = y by omega] at this
        omega
      · have := h4 (y - 1) (by omega)
        rw [show y - 1 + 1 = y by omega] at this
        exact this
  · rintro ⟨h1, h2, h3, h4⟩
    exact ⟨⟨⟨h1, h2⟩, fun x hx => h3 (x + 1) (by omega) (by omega)⟩, fun y hy => h4 (y + 1) (by omega) (by omega)⟩
theorem le_W (l : List It) {w h : Nat} (hw : 0 < w) (hh : 0 < h) : 0 ≤ W l w h ∧ (∀ i ∈ l, fitsI i w h = true → i.2.2 ≤ W l w h) ∧ (∀ x, 0 < x → x < w → W l x h + W l (w - x) h ≤ W l w h) ∧ ∀ y, 0 < y → y < h → W l w y + W l w (h - y) ≤ W l w h := (W_le l hw hh).1 (Int.le_refl _)

theorem W_mono_w (l : List It) {w h : Nat} (hw : 0 < w) (hh : 0 < h) : ∀ k, W l w h ≤ W l (w + k) h
  | 0 => Int.le_refl _
  | k + 1 => by
    have h1 := W_mono_w l hw hh k
    have h2 := (le_W l (w := w + (k + 1)) (by omega) hh).2.2.1 (w + k) (by omega) (by omega)
    have h3 := (le_W l (w := w + (k + 1) - (w + k)) (by omega) hh).1
    omega
theorem W_mono_h (l : List It) {w h : Nat} (hw : 0 < w) (hh : 0 < h) : ∀ k, W l w h ≤ W l w (h + k)
  | 0 => Int.le_refl _
  | k + 1 => by
    have h1 := W_mono_h l hw hh k
    have h2 := (le_W l (h := h + (k + 1)) hw (by omega)).2.2.2 (h + k) (by omega) (by omega)
    have h3 := (le_W l (h := h + (k + 1) - (h + k)) hw (by omega)).1
    omega

/-- dearer items -/
theorem W_dear {l l' : List It} (hd : ∀ i ∈ l, ∃ j ∈ l', j.1 = i.1 ∧ j.2.1 = i.2.1 ∧ i.2.2 ≤ j.2.2) : ∀ (n w h : Nat), w + h ≤ n → 0 < w → 0 < h → W l w h ≤ W l' w h
  | 0, w, h, h1, h2, h3 => by omega
  | n + 1, w, h, h1, hw, hh => by
    obtain ⟨a1, a2, a3, a4⟩ := le_W l' hw hh
    refine (W_le l hw hh).2 ⟨a1, fun i hi hf => ?_, fun x x0 xw => ?_, fun y y0 yh => ?_⟩
    · obtain ⟨j, hj, e1, e2, e3⟩ := hd i hi
      have := a2 j hj (by unfold fitsI at *; rw [e1, e2]; exact hf)
      omega
    · have := W_dear hd n x h (by omega) x0 hh
      have := W_dear hd n (w - x) h (by omega) (by omega) hh
      have := a3 x x0 xw
      omega
    · have := W_dear hd n w y (by omega) hw y0
      have := W_dear hd n w (h - y) (by omega) hw (by omega)
      have := a4 y y0 yh
      omega
/-- turned items -/
theorem W_turn_le {l l' : List It} (hd : ∀ i ∈ l, (i.2.1, i.1, i.2.2) ∈ l') : ∀ (n w h : Nat), w + h ≤ n → 0 < w → 0 < h → W l w h ≤ W l' h w
  | 0, w, h, h1, h2, h3 => by omega
  | n + 1, w, h, h1, hw, hh => by
    obtain ⟨a1, a2, a3, a4⟩ := le_W l' hh hw
    refine (W_le l hw hh).2 ⟨a1, fun i hi hf => ?_, fun x x0 xw => ?_, fun y y0 yh => ?_⟩
    · exact a2 (i.2.1, i.1, i.2.2) (hd i hi) (by unfold fitsI at *; simp only [Bool.and_eq_true] at *; exact ⟨hf.2, hf.1⟩)
    · have := W_turn_le hd n x h (by omega) x0 hh
      have := W_turn_le hd n (w - x) h (by omega) (by omega) hh
      have := a4 x x0 xw
      omega
    · have := W_turn_le hd n w y (by omega) hw y0
      have := W_turn_le hd n w (h - y) (by omega) hw (by omega)
      have := a3 y y0 yh
      omega
end Go.Proofs.Ytjmklbkcpjmcaaa.LL

namespace Go.Proofs.Ytjmklbkcpjmcaaa.LL
set_option linter.unusedVariables false
set_option linter.unusedSimpArgs false

abbrev Ct2 := Int × Int
/-- the number of the first item that fits and has just this worth -/
def itemAt (l : List It) (w h : Nat) (v : Int) : Option Nat := l.findIdx? fun i => fitsI i w h && decide (i.2.2 = v)
/-- the first cut, from 1 on, up to n, with this sum -/
def cutAt (f : Nat → Int) (v : Int) (n : Nat) : Option Nat := (List.range n).find? fun x => decide (f x = v)
def Pf (l : List It) : Nat → Nat → Nat → List Ct2
  | 0, _, _ => []
  | n + 1, w, h =>
    if W l w h = 0 then [(0, 0)] else
    match itemAt l w h (W l w h) with
    | some i => [(1, (i : Int))]
    | none => match cutAt (fun x => W l (x + 1) h + W l (w - (x + 1)) h) (W l w h) (w / 2) with
      | some x => (2, ((x + 1 : Nat) : Int)) :: (Pf l n (x + 1) h ++ Pf l n (w - (x + 1)) h)
      | none => match cutAt (fun y => W l w (y + 1) + W l w (h - (y + 1))) (W l w h) (h / 2) with
        | some y => (3, ((y + 1 : Nat) : Int)) :: (Pf l n w (y + 1) ++ Pf l n w (h - (y + 1)))
        | none => []
def Pl (l : List It) (w h : Nat) : List Ct2 := Pf l (w + h) w h

theorem cutAt_lt {f : Nat → Int} {v : Int} {n x : Nat} (h : cutAt f v n = some x) : x < n ∧ f x = v ∧ ∀ j, j < x → f j ≠ v := by
  unfold cutAt at h
  rw [List.find?_eq_some_iff_getElem] at h
  obtain ⟨h1, i, hi, e, h2⟩ := h
  simp at hi e h1
  subst e
  refine ⟨hi, h1, fun j hj => ?_⟩
  have := h2 j hj
  simpa using this
theorem cutAt_none {f : Nat → Int} {v : Int} {n : Nat} (h : cutAt f v n = none) : ∀ j, j < n → f j ≠ v := by
  unfold cutAt at h
  rw [List.find?_eq_none] at h
  intro j hj
  have := h j (List.mem_range.2 hj)
  simpa using this
theorem cutAt_some {f : Nat → Int} {v : Int} {n x : Nat} (h1 : x < n) (h2 : f x = v) (h3 : ∀ j, j < x → f j ≠ v) : cutAt f v n = some x := by
  unfold cutAt
  rw [List.find?_eq_some_iff_getElem]
  exact ⟨by simpa using h2, x, by simpa using h1, by simp, fun j hj => by simpa using h3 j hj⟩

theorem Pf_fuel (l : List It) : ∀ (n m w h : Nat), 0 < w → 0 < h → w + h ≤ n → w + h ≤ m → Pf l n w h = Pf l m w h
  | 0, m, w, h, hw, hh, h1, h2 => by omega
  | n + 1, 0, w, h, hw, hh, h1, h2 => by omega
  | n + 1, m + 1, w, h, hw, hh, h1, h2 => by
    rw [Pf, Pf]
    split
    · rfl
    · split
      · rfl
      · split
        · next x hx =>
          have := (cutAt_lt hx).1
          rw [Pf_fuel l n m (x + 1) h (by omega) hh (by omega) (by omega), Pf_fuel l n m (w - (x + 1)) h (by omega) hh (by omega) (by omega)]
        · split
          · next y hy =>
            have := (cutAt_lt hy).1
            rw [Pf_fuel l n m w (y + 1) hw (by omega) (by omega) (by omega), Pf_fuel l n m w (h - (y + 1)) hw (by omega) (by omega) (by omega)]
          · rfl

/-- there is always a way to reach the greatest worth -/
theorem W_cases (l : List It) {w h : Nat} (hw : 0 < w) (hh : 0 < h) : W l w h = 0 ∨ (∃ i ∈ l, fitsI i w h = true ∧ i.2.2 = W l w h) ∨ (∃ x, x < w / 2 ∧ W l (x + 1) h + W l (w - (x + 1)) h = W l w h) ∨ ∃ y, y < h / 2 ∧ W l w (y + 1) + W l w (h - (y + 1)) = W l w h := by
  have e := W_eq l hw hh
  rcases most_cases (f := fun y => W l w (y + 1) + W l w (h - (y + 1))) (b := most (fun x => W l (x + 1) h + W l (w - (x + 1)) h) (bestI l w h 0) (w / 2)) (h / 2) with h1 | ⟨y, h1, h2⟩
  · rcases most_cases (f := fun x => W l (x + 1) h + W l (w - (x + 1)) h) (b := bestI l w h 0) (w / 2) with h3 | ⟨x, h3, h4⟩
    · rcases bestI_cases (l := l) (w := w) (h := h) (b := 0) with h5 | ⟨i, h5, h6, h7⟩
      · exact .inl (by rw [e, h1, h3, h5])
      · exact .inr (.inl ⟨i, h5, h6, by rw [e, h1, h3, h7]⟩)
    · exact .inr (.inr (.inl ⟨x, h3, by rw [e, h1, h4]⟩))
  · exact .inr (.inr (.inr ⟨y, h1, by rw [e, h2]⟩))

theorem Pl_zero (l : List It) {w h : Nat} (hw : 0 < w) (h0 : W l w h = 0) : Pl l w h = [(0, 0)] := by
  unfold Pl
  obtain ⟨n, hn⟩ : ∃ n, w + h = n + 1 := ⟨w + h - 1, by omega⟩
  rw [hn, Pf, if_pos h0]
theorem Pl_item (l : List It) {w h i : Nat} (hw : 0 < w) (h0 : W l w h ≠ 0) (hi : itemAt l w h (W l w h) = some i) : Pl l w h = [(1, (i : Int))] := by
  unfold Pl
  obtain ⟨n, hn⟩ : ∃ n, w + h = n + 1 := ⟨w + h - 1, by omega⟩
  rw [hn, Pf, if_neg h0, hi]
theorem Pl_wide (l : List It) {w h x : Nat} (hw : 0 < w) (hh : 0 < h) (h0 : W l w h ≠ 0) (hi : itemAt l w h (W l w h) = none) (hx : cutAt (fun x => W l (x + 1) h + W l (w - (x + 1)) h) (W l w h) (w / 2) = some x) :
    Pl l w h = (2, ((x + 1 : Nat) : Int)) :: (Pl l (x + 1) h ++ Pl l (w - (x + 1)) h) := by
  have := (cutAt_lt hx).1
  unfold Pl
  obtain ⟨n, hn⟩ : ∃ n, w + h = n + 1 := ⟨w + h - 1, by omega⟩
  rw [hn, Pf, if_neg h0, hi]
  simp only [hx]
  rw [Pf_fuel l n (x + 1 + h) (x + 1) h (by omega) hh (by omega) (Nat.le_refl _), Pf_fuel l n (w - (x + 1) + h) (w - (x + 1)) h (by omega) hh (by omega) (Nat.le_refl _)]
theorem Pl_high (l : List It) {w h y : Nat} (hw : 0 < w) (hh : 0 < h) (h0 : W l w h ≠ 0) (hi : itemAt l w h (W l w h) = none) (hx : cutAt (fun x => W l (x + 1) h + W l (w - (x + 1)) h) (W l w h) (w / 2) = none)
    (hy : cutAt (fun y => W l w (y + 1) + W l w (h - (y + 1))) (W l w h) (h / 2) = some y) : Pl l w h = (3, ((y + 1 : Nat) : Int)) :: (Pl l w (y + 1) ++ Pl l w (h - (y + 1))) := by
  have := (cutAt_lt hy).1
  unfold Pl
  obtain ⟨n, hn⟩ : ∃ n, w + h = n + 1 := ⟨w + h - 1, by omega⟩
  rw [hn, Pf, if_neg h0, hi]
  simp only [hx, hy]
  rw [Pf_fuel l n (w + (y + 1)) w (y + 1) hw (by omega) (by omega) (Nat.le_refl _), Pf_fuel l n (w + (h - (y + 1))) w (h - (y + 1)) hw (by omega) (by omega) (Nat.le_refl _)]
theorem Pl_some (l : List It) {w h : Nat} (hw : 0 < w) (hh : 0 < h) (h0 : W l w h ≠ 0) (hi : itemAt l w h (W l w h) = none) (hx : cutAt (fun x => W l (x + 1) h + W l (w - (x + 1)) h) (W l w h) (w / 2) = none)
    (hy : cutAt (fun y => W l w (y + 1) + W l w (h - (y + 1))) (W l w h) (h / 2) = none) : False := by
  rcases W_cases l hw hh with h1 | ⟨i, h1, h2, h3⟩ | ⟨x, h1, h2⟩ | ⟨y, h1, h2⟩
  · exact h0 h1
  · unfold itemAt at hi
    rw [List.findIdx?_eq_none_iff] at hi
    have := hi i h1
    rw [h2, h3] at this
    simp at this
  · exact cutAt_none hx x h1 h2
  · exact cutAt_none hy y h1 h2
end Go.Proofs.Ytjmklbkcpjmcaaa.LL

namespace Go.Proofs.Ytjmklbkcpjmcaaa.LL
set_option linter.unusedVariables false
set_option linter.unusedSimpArgs false

/-- reading a plan: what is left of it, and the items that are cut, in order -/
def rd (l : List It) : Nat → Nat → Nat → List Ct2 → Option (List Ct2 × List Nat)
  | 0, _, _, _ => none
  | _ + 1, _, _, [] => none
  | n + 1, w, h, (k, x) :: r =>
    if k = 0 then (if x = 0 then some (r, []) else none)
    else if k = 1 then (if 0 ≤ x ∧ x < l.length ∧ fitsI (l.getD x.toNat (0, 0, 0)) w h = true then some (r, [x.toNat]) else none)
    else if k = 2 then (if 1 ≤ x ∧ x < w then (match rd l n x.toNat h r with
      | some (r1, u1) => (match rd l n (w - x.toNat) h r1 with
        | some (r2, u2) => some (r2, u1 ++ u2)
        | none => none)
      | none => none) else none)
    else if k = 3 then (if 1 ≤ x ∧ x < h then (match rd l n w x.toNat r with
      | some (r1, u1) => (match rd l n w (h - x.toNat) r1 with
        | some (r2, u2) => some (r2, u1 ++ u2)
        | none => none)
      | none => none) else none)
    else none

theorem rd_len (l : List It) : ∀ (n w h : Nat) (p r : List Ct2) (u : List Nat), rd l n w h p = some (r, u) → r.length < p.length
  | 0, _, _, _, _, _, hr => by simp [rd] at hr
  | n + 1, w, h, [], r, u, hr => by simp [rd] at hr
  | n + 1, w, h, (k, x) :: p, r, u, hr => by
    unfold rd at hr
    split at hr
    · split at hr
      · simp at hr; rw [← hr.1]; simp
      · simp at hr
    · split at hr
      · split at hr
        · simp at hr; rw [← hr.1]; simp
        · simp at hr
      · split at hr
        · split at hr
          · split at hr
            · next r1 u1 h1 =>
              split at hr
              · next r2 u2 h2 =>
                simp at hr
                have a := rd_len l n _ _ _ _ _ h1
                have b := rd_len l n _ _ _ _ _ h2
                rw [← hr.1]; simp; omega
              · simp at hr
            · simp at hr
          · simp at hr
        · split at hr
          · split at hr
            · split at hr
              · next r1 u1 h1 =>
                split at hr
                · next r2 u2 h2 =>
                  simp at hr
                  have a := rd_len l n _ _ _ _ _ h1
                  have b := rd_len l n _ _ _ _ _ h2
                  rw [← hr.1]; simp; omega
                · simp at hr
              · simp at hr
            · simp at hr
          · simp at hr

theorem rd_fuel (l : List It) : ∀ (n m w h : Nat) (p : List Ct2), p.length < n → p.length < m → rd l n w h p = rd l m w h p
  | 0, _, _, _, _, h1, _ => absurd h1 (Nat.not_lt_zero _)
  | n + 1, 0, _, _, _, _, h2 => absurd h2 (Nat.not_lt_zero _)
  | n + 1, m + 1, w, h, [], _, _ => rfl
  | n + 1, m + 1, w, h, (k, x) :: p, h1, h2 => by
    simp only [List.length_cons] at h1 h2
    have e : ∀ w h, rd l n w h p = rd l m w h p := fun w h => rd_fuel l n m w h p (by omega) (by omega)
    have e2 : ∀ (w' h' w h : Nat) (r1 : List Ct2) (u1 : List Nat), rd l m w' h' p = some (r1, u1) → rd l n w h r1 = rd l m w h r1 := fun w' h' w h r1 u1 hr => by
      have := rd_len l m w' h' p r1 u1 hr
      exact rd_fuel l n m w h r1 (by omega) (by omega)
    unfold rd
    simp only [e]
    split
    · rfl
    · split
      · rfl
      · split
        · split
          · cases hr : rd l m x.toNat h p with
            | none => rfl
            | some y => obtain ⟨r1, u1⟩ := y; simp only [e2 _ _ _ _ _ _ hr]
          · rfl
        · split
          · split
            · cases hr : rd l m w x.toNat p with
              | none => rfl
              | some y => obtain ⟨r1, u1⟩ := y; simp only [e2 _ _ _ _ _ _ hr]
            · rfl
          · rfl

/-- what items are worth, and their area -/
def valU (l : List It) (u : List Nat) : Int := (u.map fun i => (l.getD i (0, 0, 0)).2.2).foldr (· + ·) 0
def arU (l : List It) (u : List Nat) : Int := (u.map fun i => (l.getD i (0, 0, 0)).1 * (l.getD i (0, 0, 0)).2.1).foldr (· + ·) 0
theorem foldr_app (a b : List Int) : (a ++ b).foldr (· + ·) 0 = a.foldr (· + ·) 0 + b.foldr (· + ·) 0 := by
  induction a with
  | nil => simp
  | cons x a ih => simp only [List.cons_append, List.foldr_cons, ih]; omega
theorem valU_app (l : List It) (u v : List Nat) : valU l (u ++ v) = valU l u + valU l v := by unfold valU; rw [List.map_append, foldr_app]
theorem arU_app (l : List It) (u v : List Nat) : arU l (u ++ v) = arU l u + arU l v := by unfold arU; rw [List.map_append, foldr_app]

/-- a plan that is read is worth no more than the greatest worth, and its items have room -/
theorem rd_le (l : List It) (hp : ∀ i ∈ l, 0 ≤ i.1 ∧ 0 ≤ i.2.1) : ∀ (n w h : Nat) (p r : List Ct2) (u : List Nat), 0 < w → 0 < h → rd l n w h p = some (r, u) → valU l u ≤ W l w h ∧ arU l u ≤ (w : Int) * h ∧ ∀ i ∈ u, i < l.length
  | 0, _, _, _, _, _, _, _, hr => by simp [rd] at hr
  | n + 1, w, h, [], r, u, _, _, hr => by simp [rd] at hr
  | n + 1, w, h, (k, x) :: p, r, u, hw, hh, hr => by
    obtain ⟨a1, a2, a3, a4⟩ := le_W l hw hh
    have hwh : (0 : Int) ≤ (w : Int) * h := Int.mul_nonneg (by omega) (by omega)
    unfold rd at hr
    split at hr
    · split at hr
      · simp at hr; rw [hr.2]; exact ⟨a1, hwh, fun i hi => by cases hi⟩
      · simp at hr
    · split at hr
      · split at hr
        · next hc =>
          obtain ⟨c1, c2, c3⟩ := hc
          simp at hr
          have hxl : x.toNat < l.length := by omega
          rw [← hr.2]
          have hg : l.getD x.toNat (0, 0, 0) = l[x.toNat] := by simp [hxl]
          rw [hg] at c3
          have hm : l[x.toNat] ∈ l := List.getElem_mem hxl
          refine ⟨?_, ?_, fun i hi => by simp at hi; omega⟩
          · unfold valU
            simp only [List.map_cons, List.map_nil, List.foldr_cons, List.foldr_nil, hg]
            have := a2 _ hm c3
            omega
          · unfold arU
            simp only [List.map_cons, List.map_nil, List.foldr_cons, List.foldr_nil, hg]
            unfold fitsI at c3
            simp only [Bool.and_eq_true, decide_eq_true_eq] at c3
            have := Int.mul_le_mul c3.1 c3.2 (hp _ hm).2 (by omega)
            omega
        · simp at hr
      · split at hr
        · split at hr
          · next hc =>
            split at hr
            · next r1 u1 h1 =>
              split at hr
              · next r2 u2 h2 =>
                simp at hr
                obtain ⟨b1, b2, b3⟩ := rd_le l hp n _ _ _ _ _ (by omega) hh h1
                obtain ⟨d1, d2, d3⟩ := rd_le l hp n _ _ _ _ _ (by omega) hh h2
                rw [← hr.2]
                refine ⟨?_, ?_, fun i hi => ?_⟩
                · rw [valU_app]
                  have := a3 x.toNat (by omega) (by omega)
                  omega
                · rw [arU_app]
                  have e : (w : Int) * h = (x.toNat : Int) * h + ((w - x.toNat : Nat) : Int) * h := by rw [← Int.add_mul]; congr 1; omega
                  omega
                · rcases List.mem_append.1 hi with h | h
                  · exact b3 i h
                  · exact d3 i h
              · simp at hr
            · simp at hr
          · simp at hr
        · split at hr
          · split at hr
            · next hc =>
              split at hr
              · next r1 u1 h1 =>
                split at hr
                · next r2 u2 h2 =>
                  simp at hr
                  obtain ⟨b1, b2, b3⟩ := rd_le l hp n _ _ _ _ _ hw (by omega) h1
                  obtain ⟨d1, d2, d3⟩ := rd_le l hp n _ _ _ _ _ hw (by omega) h2
                  rw [← hr.2]
                  refine ⟨?_, ?_, fun i hi => ?_⟩
                  · rw [valU_app]
                    have := a4 x.toNat (by omega) (by omega)
                    omega
                  · rw [arU_app]
                    have e : (w : Int) * h = (w : Int) * (x.toNat : Int) + (w : Int) * ((h - x.toNat : Nat) : Int) := by rw [← Int.mul_add]; congr 1; omega
                    omega
                  · rcases List.mem_append.1 hi with h | h
                    · exact b3 i h
                    · exact d3 i h
                · simp at hr
              · simp at hr
            · simp at hr
          · simp at hr

/-- the plan of the rule is read whole, with the greatest worth -/
theorem rd_plan (l : List It) : ∀ (n w h : Nat) (t : List Ct2) (m : Nat), w + h ≤ n → 0 < w → 0 < h → (Pl l w h ++ t).length < m → ∃ u, rd l m w h (Pl l w h ++ t) = some (t, u) ∧ valU l u = W l w h
  | 0, w, h, t, m, h1, h2, h3, _ => by omega
  | n + 1, w, h, t, 0, _, _, _, h4 => absurd h4 (Nat.not_lt_zero _)
  | n + 1, w, h, t, m + 1, h1, hw, hh, h4 => by
    by_cases h0 : W l w h = 0
    · rw [Pl_zero l hw h0]
      exact ⟨[], by simp [rd], by rw [h0]; rfl⟩
    · cases hi : itemAt l w h (W l w h) with
      | some i =>
        rw [Pl_item l hw h0 hi]
        unfold itemAt at hi
        rw [List.findIdx?_eq_some_iff_getElem] at hi
        obtain ⟨hil, hiv, _⟩ := hi
        simp only [Bool.and_eq_true, decide_eq_true_eq] at hiv
        have hg : l.getD i (0, 0, 0) = l[i] := by simp [hil]
        refine ⟨[i], ?_, ?_⟩
        · have : ¬ ((1 : Int) = 0) := by decide
          rw [List.cons_append, List.nil_append, rd, if_neg this, if_pos rfl, if_pos ⟨by omega, by omega, by rw [Int.toNat_natCast, hg]; exact hiv.1⟩]
          simp
        · unfold valU
          simp only [List.map_cons, List.map_nil, List.foldr_cons, List.foldr_nil, hg]
          rw [hiv.2]; omega
      | none =>
        cases hx : cutAt (fun x => W l (x + 1) h + W l (w - (x + 1)) h) (W l w h) (w / 2) with
        | some x =>
          obtain ⟨x1, x2, _⟩ := cutAt_lt hx
          rw [Pl_wide l hw hh h0 hi hx] at h4 ⊢
          simp only [List.cons_append, List.append_assoc, List.length_cons] at h4 ⊢
          obtain ⟨u1, r1, v1⟩ := rd_plan l n (x + 1) h (Pl l (w - (x + 1)) h ++ t) m (by omega) (by omega) hh (by omega)
          obtain ⟨u2, r2, v2⟩ := rd_plan l n (w - (x + 1)) h t m (by omega) (by omega) hh (by simp only [List.length_append] at h4 ⊢; omega)
          refine ⟨u1 ++ u2, ?_, by rw [valU_app, v1, v2]; exact x2⟩
          rw [rd, if_neg (by decide), if_neg (by decide), if_pos rfl, if_pos ⟨by omega, by omega⟩]
          simp only [Int.toNat_natCast, r1, r2]
        | none =>
          cases hy : cutAt (fun y => W l w (y + 1) + W l w (h - (y + 1))) (W l w h) (h / 2) with
          | some y =>
            obtain ⟨x1, x2, _⟩ := cutAt_lt hy
            rw [Pl_high l hw hh h0 hi hx hy] at h4 ⊢
            simp only [List.cons_append, List.append_assoc, List.length_cons] at h4 ⊢
            obtain ⟨u1, r1, v1⟩ := rd_plan l n w (y + 1) (Pl l w (h - (y + 1)) ++ t) m (by omega) hw (by omega) (by omega)
            obtain ⟨u2, r2, v2⟩ := rd_plan l n w (h - (y + 1)) t m (by omega) hw (by omega) (by simp only [List.length_append] at h4 ⊢; omega)
            refine ⟨u1 ++ u2, ?_, by rw [valU_app, v1, v2]; exact x2⟩
            rw [rd, if_neg (by decide), if_neg (by decide), if_neg (by decide), if_pos rfl, if_pos ⟨by omega, by omega⟩]
            simp only [Int.toNat_natCast, r1, r2]
          | none => exact (Pl_some l hw hh h0 hi hx hy).elim

theorem Pl_len (l : List It) : ∀ (n w h : Nat), w + h ≤ n → 0 < w → 0 < h → (Pl l w h).length + 1 ≤ 2 * (w * h)
  | 0, w, h, h1, h2, h3 => by omega
  | n + 1, w, h, h1, hw, hh => by
    have hwh : 0 < w * h := Nat.mul_pos hw hh
    by_cases h0 : W l w h = 0
    · rw [Pl_zero l hw h0]; simp; omega
    · cases hi : itemAt l w h (W l w h) with
      | some i => rw [Pl_item l hw h0 hi]; simp; omega
      | none =>
        cases hx : cutAt (fun x => W l (x + 1) h + W l (w - (x + 1)) h) (W l w h) (w / 2) with
        | some x =>
          obtain ⟨x1, x2, _⟩ := cutAt_lt hx
          rw [Pl_wide l hw hh h0 hi hx]
          have a := Pl_len l n (x + 1) h (by omega) (by omega) hh
          have b := Pl_len l n (w - (x + 1)) h (by omega) (by omega) hh
          have e : w * h = (x + 1) * h + (w - (x + 1)) * h := by rw [← Nat.add_mul]; congr 1; omega
          simp; omega
        | none =>
          cases hy : cutAt (fun y => W l w (y + 1) + W l w (h - (y + 1))) (W l w h) (h / 2) with
          | some y =>
            obtain ⟨x1, x2, _⟩ := cutAt_lt hy
            rw [Pl_high l hw hh h0 hi hx hy]
            have a := Pl_len l n w (y + 1) (by omega) hw (by omega)
            have b := Pl_len l n w (h - (y + 1)) (by omega) hw (by omega)
            have e : w * h = w * (y + 1) + w * (h - (y + 1)) := by rw [← Nat.mul_add]; congr 1; omega
            simp; omega
          | none => exact (Pl_some l hw hh h0 hi hx hy).elim
end Go.Proofs.Ytjmklbkcpjmcaaa.LL

namespace Go.Proofs.Ytjmklbkcpjmcaaa.LL
set_option linter.unusedVariables false
set_option linter.unusedSimpArgs false

abbrev Gr := Nat × Nat × Nat
/-- what the search for the first grid finds: index i, first number a, second number b -/
structure Den (adm : Gr → Prop) (i a b : Nat) : Prop where
  a0 : 0 < a
  ai : a ≤ i
  dvd : i % a = 0
  bd : b < i / a
  ok : adm (a, b, i / a)
  first : ∀ i' a' b', 0 < a' → a' ≤ i' → i' % a' = 0 → b' < i' / a' → (i' < i ∨ (i' = i ∧ (a' < a ∨ (a' = a ∧ b' < b)))) → ¬ adm (a', b', i' / a')
theorem Den.unique {adm : Gr → Prop} {i a b i' a' b' : Nat} (h : Den adm i a b) (h' : Den adm i' a' b') : i = i' ∧ a = a' ∧ b = b' := by
  have k1 : ¬ (i' < i ∨ (i' = i ∧ (a' < a ∨ (a' = a ∧ b' < b)))) := fun hl => h.first i' a' b' h'.a0 h'.ai h'.dvd h'.bd hl h'.ok
  have k2 : ¬ (i < i' ∨ (i = i' ∧ (a < a' ∨ (a = a' ∧ b < b')))) := fun hl => h'.first i a b h.a0 h.ai h.dvd h.bd hl h.ok
  omega
theorem Den.congr {adm adm' : Gr → Prop} {i a b : Nat} (h : Den adm i a b) (he : ∀ g, adm g ↔ adm' g) : Den adm' i a b :=
  ⟨h.a0, h.ai, h.dvd, h.bd, (he _).1 h.ok, fun i' a' b' h1 h2 h3 h4 h5 hn => h.first i' a' b' h1 h2 h3 h4 h5 ((he _).2 hn)⟩

/-- no good grid comes before this place -/
def Low (adm : Gr → Prop) (i a b : Nat) : Prop := ∀ i' a' b', 0 < a' → a' ≤ i' → i' % a' = 0 → b' < i' / a' → (i' < i ∨ (i' = i ∧ (a' < a ∨ (a' = a ∧ b' < b)))) → ¬ adm (a', b', i' / a')
theorem Low.start (adm : Gr → Prop) : Low adm 1 1 0 := fun i' a' b' h1 h2 h3 h4 h5 => by omega
theorem Low.nextB {adm : Gr → Prop} {i a b : Nat} (h : Low adm i a b) (hn : ¬ adm (a, b, i / a)) : Low adm i a (b + 1) := fun i' a' b' h1 h2 h3 h4 h5 => by
  by_cases hc : i' < i ∨ (i' = i ∧ (a' < a ∨ (a' = a ∧ b' < b)))
  · exact h i' a' b' h1 h2 h3 h4 hc
  · obtain ⟨rfl, rfl, rfl⟩ : i' = i ∧ a' = a ∧ b' = b := by omega
    exact hn
theorem Low.nextA {adm : Gr → Prop} {i a b : Nat} (h : Low adm i a b) (hn : i % a ≠ 0 ∨ i / a ≤ b) : Low adm i (a + 1) 0 := fun i' a' b' h1 h2 h3 h4 h5 => by
  by_cases hc : i' < i ∨ (i' = i ∧ (a' < a ∨ (a' = a ∧ b' < b)))
  · exact h i' a' b' h1 h2 h3 h4 hc
  · obtain ⟨rfl, rfl⟩ : i' = i ∧ a' = a := by omega
    omega
theorem Low.nextI {adm : Gr → Prop} {i a : Nat} (h : Low adm i a 0) (hn : i < a) : Low adm (i + 1) 1 0 := fun i' a' b' h1 h2 h3 h4 h5 =>
  h i' a' b' h1 h2 h3 h4 (by omega)
theorem Low.den {adm : Gr → Prop} {i a b : Nat} (h : Low adm i a b) (h1 : 0 < a) (h2 : a ≤ i) (h3 : i % a = 0) (h4 : b < i / a) (hok : adm (a, b, i / a)) : Den adm i a b := ⟨h1, h2, h3, h4, hok, h⟩
end Go.Proofs.Ytjmklbkcpjmcaaa.LL

namespace Go.Proofs.Ytjmklbkcpjmcaaa.LL
set_option linter.unusedVariables false
set_option linter.unusedSimpArgs false

/-- reading a plan, with room enough -/
def rdP (l : List It) (w h : Nat) (p : List Ct2) : Option (List Ct2 × List Nat) := rd l (p.length + 1) w h p

theorem rd_rdP (l : List It) {n w h : Nat} {p : List Ct2} (hn : p.length < n) : rd l n w h p = rdP l w h p := rd_fuel l n (p.length + 1) w h p hn (by omega)

theorem rdP_len {l : List It} {w h : Nat} {p r : List Ct2} {u : List Nat} (hr : rdP l w h p = some (r, u)) : r.length < p.length := rd_len l _ _ _ _ _ _ hr

theorem rdP_nil (l : List It) (w h : Nat) : rdP l w h [] = none := by simp [rdP, rd]
theorem rdP_waste (l : List It) (w h : Nat) (x : Int) (r : List Ct2) : rdP l w h ((0, x) :: r) = if x = 0 then some (r, []) else none := by simp [rdP, rd]
theorem rdP_item (l : List It) (w h : Nat) (x : Int) (r : List Ct2) : rdP l w h ((1, x) :: r) = if 0 ≤ x ∧ x < l.length ∧ fitsI (l.getD x.toNat (0, 0, 0)) w h = true then some (r, [x.toNat]) else none := by simp [rdP, rd]
theorem rdP_wide (l : List It) (w h : Nat) (x : Int) (r : List Ct2) : rdP l w h ((2, x) :: r) = if 1 ≤ x ∧ x < w then (match rdP l x.toNat h r with
    | some (r1, u1) => (match rdP l (w - x.toNat) h r1 with
      | some (r2, u2) => some (r2, u1 ++ u2)
      | none => none)
    | none => none) else none := by
  rw [rdP, List.length_cons, rd, if_neg (by decide), if_neg (by decide), if_pos rfl, rd_rdP l (by omega)]
  split
  · cases h1 : rdP l x.toNat h r with
    | none => rfl
    | some q =>
      obtain ⟨r1, u1⟩ := q
      have := rdP_len h1
      simp only
      rw [rd_rdP l (by omega)]
  · rfl
theorem rdP_high (l : List It) (w h : Nat) (x : Int) (r : List Ct2) : rdP l w h ((3, x) :: r) = if 1 ≤ x ∧ x < h then (match rdP l w x.toNat r with
    | some (r1, u1) => (match rdP l w (h - x.toNat) r1 with
      | some (r2, u2) => some (r2, u1 ++ u2)
      | none => none)
    | none => none) else none := by
  rw [rdP, List.length_cons, rd, if_neg (by decide), if_neg (by decide), if_neg (by decide), if_pos rfl, rd_rdP l (by omega)]
  split
  · cases h1 : rdP l w x.toNat r with
    | none => rfl
    | some q =>
      obtain ⟨r1, u1⟩ := q
      have := rdP_len h1
      simp only
      rw [rd_rdP l (by omega)]
  · rfl
theorem rdP_other (l : List It) (w h : Nat) (k x : Int) (r : List Ct2) (h0 : k ≠ 0) (h1 : k ≠ 1) (h2 : k ≠ 2) (h3 : k ≠ 3) : rdP l w h ((k, x) :: r) = none := by simp [rdP, rd, h0, h1, h2, h3]

/-- what is used is no more than what is read -/
theorem rd_use (l : List It) : ∀ (n w h : Nat) (p r : List Ct2) (u : List Nat), rd l n w h p = some (r, u) → u.length + r.length ≤ p.length ∧ ∀ i ∈ u, i < l.length
  | 0, _, _, _, _, _, hr => by simp [rd] at hr
  | n + 1, w, h, [], r, u, hr => by simp [rd] at hr
  | n + 1, w, h, (k, x) :: p, r, u, hr => by
    rw [rd] at hr
    split at hr
    · split at hr
      · simp only [Option.some.injEq, Prod.mk.injEq] at hr
        obtain ⟨rfl, rfl⟩ := hr
        exact ⟨by simp, fun i hi => by simp at hi⟩
      · cases hr
    · split at hr
      · split at hr
        · next hx =>
          simp only [Option.some.injEq, Prod.mk.injEq] at hr
          obtain ⟨rfl, rfl⟩ := hr
          refine ⟨by simp; omega, fun i hi => ?_⟩
          obtain rfl := List.mem_singleton.1 hi
          omega
        · cases hr
      · split at hr
        · split at hr
          · cases h1 : rd l n x.toNat h p with
            | none => rw [h1] at hr; cases hr
            | some q =>
              obtain ⟨r1, u1⟩ := q
              rw [h1] at hr
              simp only at hr
              cases h2 : rd l n (w - x.toNat) h r1 with
              | none => rw [h2] at hr; cases hr
              | some q =>
                obtain ⟨r2, u2⟩ := q
                rw [h2] at hr
                simp only [Option.some.injEq, Prod.mk.injEq] at hr
                obtain ⟨rfl, rfl⟩ := hr
                have e1 := rd_use l n _ _ _ _ _ h1
                have e2 := rd_use l n _ _ _ _ _ h2
                refine ⟨by simp only [List.length_append, List.length_cons]; omega, fun i hi => ?_⟩
                rcases List.mem_append.1 hi with hi | hi
                · exact e1.2 i hi
                · exact e2.2 i hi
          · cases hr
        · split at hr
          · split at hr
            · cases h1 : rd l n w x.toNat p with
              | none => rw [h1] at hr; cases hr
              | some q =>
                obtain ⟨r1, u1⟩ := q
                rw [h1] at hr
                simp only at hr
                cases h2 : rd l n w (h - x.toNat) r1 with
                | none => rw [h2] at hr; cases hr
                | some q =>
                  obtain ⟨r2, u2⟩ := q
                  rw [h2] at hr
                  simp only [Option.some.injEq, Prod.mk.injEq] at hr
                  obtain ⟨rfl, rfl⟩ := hr
                  have e1 := rd_use l n _ _ _ _ _ h1
                  have e2 := rd_use l n _ _ _ _ _ h2
                  refine ⟨by simp only [List.length_append, List.length_cons]; omega, fun i hi => ?_⟩
                  rcases List.mem_append.1 hi with hi | hi
                  · exact e1.2 i hi
                  · exact e2.2 i hi
            · cases hr
          · cases hr
theorem rdP_use {l : List It} {w h : Nat} {p r : List Ct2} {u : List Nat} (hr : rdP l w h p = some (r, u)) : u.length + r.length ≤ p.length ∧ ∀ i ∈ u, i < l.length := rd_use l _ _ _ _ _ _ hr

/-- items counted -/
def addU (m : List Int) (u : List Nat) : List Int := u.foldl (fun m i => m.set i (m.getD i 0 + 1)) m
theorem addU_nil (m : List Int) : addU m [] = m := rfl
theorem addU_app (m : List Int) (u v : List Nat) : addU m (u ++ v) = addU (addU m u) v := by simp [addU, List.foldl_append]
theorem addU_one {m : List Int} {k : Nat} (hk : k < m.length) : addU m [k] = m.set k (m[k] + 1) := by
  simp only [addU, List.foldl_cons, List.foldl_nil, List.getD_eq_getElem?_getD, List.getElem?_eq_getElem hk, Option.getD_some]
theorem addU_len (m : List Int) : ∀ u, (addU m u).length = m.length := by
  intro u
  unfold addU
  induction u generalizing m with
  | nil => rfl
  | cons i u ih => rw [List.foldl_cons, ih]; simp
theorem addU_bd {N : Int} : ∀ (u : List Nat) (m : List Int), (∀ x ∈ m, 0 ≤ x ∧ x + u.length ≤ N) → 0 ≤ N → ∀ x ∈ addU m u, 0 ≤ x ∧ x ≤ N
  | [], m, h, _, x, hx => by have := h x hx; simp at this; omega
  | i :: u, m, h, hN, x, hx => by
    have hx' : x ∈ addU (m.set i (m.getD i 0 + 1)) u := hx
    by_cases hi : i < m.length
    · refine addU_bd u _ (fun y hy => ?_) hN x hx'
      rcases List.mem_or_eq_of_mem_set hy with hy | rfl
      · have := h y hy
        simp only [List.length_cons] at this
        omega
      · rw [List.getD_eq_getElem?_getD, List.getElem?_eq_getElem hi, Option.getD_some]
        have := h m[i] (List.getElem_mem hi)
        simp only [List.length_cons] at this
        omega
    · rw [List.set_eq_of_length_le (by omega)] at hx'
      refine addU_bd u _ (fun y hy => ?_) hN x hx'
      have := h y hy
      simp only [List.length_cons] at this
      omega
/-- the counts stay within their bounds -/
theorem addU_bd2 {N : Int} {u : List Nat} {m : List Int} {k : Nat} (h : ∀ x ∈ m, 0 ≤ x ∧ x + ((u.length + k : Nat) : Int) ≤ N) (hN : (k : Int) ≤ N) : ∀ x ∈ addU m u, 0 ≤ x ∧ x + k ≤ N := fun x hx => by
  have := addU_bd (N := N - k) u m (fun y hy => by have := h y hy; omega) (by omega) x hx
  omega

/-- what counted items come to -/
def dotM (l : List It) (m : List Int) : Nat → Int
  | 0 => 0
  | k + 1 => dotM l m k + m.getD k 0 * (l.getD k (0, 0, 0)).2.2
def dotA (l : List It) (m : List Int) : Nat → Int
  | 0 => 0
  | k + 1 => dotA l m k + m.getD k 0 * (l.getD k (0, 0, 0)).1 * (l.getD k (0, 0, 0)).2.1

theorem getD_set (m : List Int) (i k : Nat) (x : Int) (hi : i < m.length) : (m.set i x).getD k 0 = if k = i then x else m.getD k 0 := by
  rw [List.getD_eq_getElem?_getD, List.getElem?_set, List.getD_eq_getElem?_getD]
  by_cases h : i = k
  · subst h; simp [hi]
  · rw [if_neg h, if_neg (fun e => h e.symm)]

theorem dotM_set (l : List It) (m : List Int) (i : Nat) (hi : i < m.length) : ∀ k, dotM l (m.set i (m.getD i 0 + 1)) k = dotM l m k + if i < k then (l.getD i (0, 0, 0)).2.2 else 0
  | 0 => by simp [dotM]
  | k + 1 => by
    rw [dotM, dotM, dotM_set l m i hi k, getD_set m i k _ hi]
    by_cases h : k = i
    · subst h
      rw [if_pos rfl, if_neg (by omega), if_pos (by omega), Int.add_mul]; omega
    · rw [if_neg h]
      by_cases h2 : i < k
      · rw [if_pos h2, if_pos (by omega)]; omega
      · rw [if_neg h2, if_neg (by omega)]; omega
theorem dotA_set (l : List It) (m : List Int) (i : Nat) (hi : i < m.length) : ∀ k, dotA l (m.set i (m.getD i 0 + 1)) k = dotA l m k + if i < k then (l.getD i (0, 0, 0)).1 * (l.getD i (0, 0, 0)).2.1 else 0
  | 0 => by simp [dotA]
  | k + 1 => by
    rw [dotA, dotA, dotA_set l m i hi k, getD_set m i k _ hi]
    by_cases h : k = i
    · subst h
      rw [if_pos rfl, if_neg (by omega), if_pos (by omega), Int.add_mul, Int.add_mul, Int.one_mul]; omega
    · rw [if_neg h]
      by_cases h2 : i < k
      · rw [if_pos h2, if_pos (by omega)]; omega
      · rw [if_neg h2, if_neg (by omega)]; omega

theorem dotM_addU (l : List It) : ∀ (u : List Nat) (m : List Int), m.length = l.length → (∀ i ∈ u, i < l.length) → dotM l (addU m u) l.length = dotM l m l.length + valU l u
  | [], m, _, _ => by simp [addU, valU]
  | i :: u, m, hm, hu => by
    have hi := hu i (by simp)
    have e := dotM_addU l u (m.set i (m.getD i 0 + 1)) (by simpa using hm) (fun j hj => hu j (by simp [hj]))
    have e2 : addU m (i :: u) = addU (m.set i (m.getD i 0 + 1)) u := rfl
    rw [e2, e, dotM_set l m i (by omega), if_pos hi]
    simp only [valU, List.map_cons, List.foldr_cons]
    omega
theorem dotA_addU (l : List It) : ∀ (u : List Nat) (m : List Int), m.length = l.length → (∀ i ∈ u, i < l.length) → dotA l (addU m u) l.length = dotA l m l.length + arU l u
  | [], m, _, _ => by simp [addU, arU]
  | i :: u, m, hm, hu => by
    have hi := hu i (by simp)
    have e := dotA_addU l u (m.set i (m.getD i 0 + 1)) (by simpa using hm) (fun j hj => hu j (by simp [hj]))
    have e2 : addU m (i :: u) = addU (m.set i (m.getD i 0 + 1)) u := rfl
    rw [e2, e, dotA_set l m i (by omega), if_pos hi]
    simp only [arU, List.map_cons, List.foldr_cons]
    omega
theorem getD_rep (n k : Nat) : (List.replicate n (0 : Int)).getD k 0 = 0 := by
  rw [List.getD_eq_getElem?_getD, List.getElem?_replicate]
  split <;> rfl
theorem dotM_zero (l : List It) (n : Nat) : ∀ k, dotM l (List.replicate n 0) k = 0
  | 0 => rfl
  | k + 1 => by rw [dotM, dotM_zero l n k, getD_rep]; omega
theorem dotA_zero (l : List It) (n : Nat) : ∀ k, dotA l (List.replicate n 0) k = 0
  | 0 => rfl
  | k + 1 => by rw [dotA, dotA_zero l n k, getD_rep, Int.zero_mul, Int.zero_mul]; omega

/-- values are no less than nothing, and no more than they may be -/
theorem valU_bd (l : List It) {M : Int} (hl : ∀ i ∈ l, 0 ≤ i.2.2 ∧ i.2.2 ≤ M) (hM : 0 ≤ M) : ∀ u : List Nat, 0 ≤ valU l u ∧ valU l u ≤ M * u.length
  | [] => by simp [valU]
  | i :: u => by
    have ih := valU_bd l hl hM u
    have e : valU l (i :: u) = (l.getD i (0, 0, 0)).2.2 + valU l u := rfl
    have h1 : 0 ≤ (l.getD i (0, 0, 0)).2.2 ∧ (l.getD i (0, 0, 0)).2.2 ≤ M := by
      rw [List.getD_eq_getElem?_getD]
      cases h : l[i]? with
      | none => exact ⟨Int.le_refl _, hM⟩
      | some x => exact hl x (List.mem_of_getElem? h)
    have e3 : M * ((i :: u).length : Int) = M * u.length + M := by rw [List.length_cons]; push_cast; rw [Int.mul_add, Int.mul_one]
    rw [e, e3]
    omega

end Go.Proofs.Ytjmklbkcpjmcaaa.LL
