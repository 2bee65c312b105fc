/-
  Guillotine cuts, plainly: the greatest worth of a rectangle.
-/
import Derived.Test.YtjmklbkcpjmcaaaProg
namespace Go.Proofs.Ytjmklbkcpjmcaaa.LL
set_option linter.unusedVariables false
set_option linter.unusedSimpArgs false

abbrev It := Int × Int × Int
def mx (a b : Int) : Int := if b > a then b else a
theorem mx_le {a b c : Int} : mx a b ≤ c ↔ a ≤ c ∧ b ≤ c := by unfold mx; split <;> omega
theorem le_mx {a b c : Int} : c ≤ mx a b ↔ c ≤ a ∨ c ≤ b := by unfold mx; split <;> omega

def fitsI (i : It) (w h : Nat) : Bool := decide (i.1 ≤ w) && decide (i.2.1 ≤ h)
def bestI (l : List It) (w h : Nat) (b : Int) : Int := l.foldl (fun b i => if fitsI i w h then mx b i.2.2 else b) b
/-- the most of b and of the first k numbers -/
def most (f : Nat → Int) (b : Int) : Nat → Int
  | 0 => b
  | k + 1 => mx (most f b k) (f k)

theorem most_le {f : Nat → Int} {b c : Int} : ∀ {k : Nat}, most f b k ≤ c ↔ b ≤ c ∧ ∀ j, j < k → f j ≤ c
  | 0 => ⟨fun h => ⟨h, fun j hj => absurd hj (Nat.not_lt_zero _)⟩, fun h => h.1⟩
  | k + 1 => by
    rw [most, mx_le, most_le]
    constructor
    · rintro ⟨⟨h1, h2⟩, h3⟩
      refine ⟨h1, fun j hj => ?_⟩
      rcases Nat.lt_succ_iff_lt_or_eq.1 hj with h | rfl
      · exact h2 j h
      · exact h3
    · rintro ⟨h1, h2⟩
      exact ⟨⟨h1, fun j hj => h2 j (by omega)⟩, h2 k (by omega)⟩
theorem le_most {f : Nat → Int} {b : Int} {k : Nat} : b ≤ most f b k ∧ ∀ j, j < k → f j ≤ most f b k := most_le.1 (Int.le_refl _)
theorem most_cases {f : Nat → Int} {b : Int} : ∀ k, most f b k = b ∨ ∃ j, j < k ∧ most f b k = f j
  | 0 => .inl rfl
  | k + 1 => by
    rw [most]
    unfold mx
    split
    · exact .inr ⟨k, Nat.lt_succ_self k, rfl⟩
    · rcases most_cases k with h | ⟨j, h1, h2⟩
      · exact .inl h
      · exact .inr ⟨j, by omega, h2⟩
theorem most_congr {f g : Nat → Int} {b : Int} : ∀ {k : Nat}, (∀ j, j < k → f j = g j) → most f b k = most g b k
  | 0, _ => rfl
  | k + 1, h => by rw [most, most, most_congr (fun j hj => h j (by omega)), h k (by omega)]

theorem bestI_le {l : List It} {w h : Nat} {b c : Int} : bestI l w h b ≤ c ↔ b ≤ c ∧ ∀ i ∈ l, fitsI i w h = true → i.2.2 ≤ c := by
  unfold bestI
  induction l generalizing b with
  | nil => simp
  | cons x l ih =>
    rw [List.foldl_cons, ih]
    constructor
    · rintro ⟨h1, h2⟩
      split at h1
      · next hx =>
        rw [mx_le] at h1
        refine ⟨h1.1, fun i hi hf => ?_⟩
        rcases List.mem_cons.1 hi with rfl | hi
        · exact h1.2
        · exact h2 i hi hf
      · next hx =>
        refine ⟨h1, fun i hi hf => ?_⟩
        rcases List.mem_cons.1 hi with rfl | hi
        · exact absurd hf hx
        · exact h2 i hi hf
    · rintro ⟨h1, h2⟩
      refine ⟨?_, fun i hi hf => h2 i (List.mem_cons_of_mem _ hi) hf⟩
      split
      · next hx => exact mx_le.2 ⟨h1, h2 x (by simp) hx⟩
      · exact h1
theorem le_bestI {l : List It} {w h : Nat} {b : Int} : b ≤ bestI l w h b ∧ ∀ i ∈ l, fitsI i w h = true → i.2.2 ≤ bestI l w h b := bestI_le.1 (Int.le_refl _)
theorem bestI_cases {l : List It} {w h : Nat} {b : Int} : bestI l w h b = b ∨ ∃ i ∈ l, fitsI i w h = true ∧ bestI l w h b = i.2.2 := by
  unfold bestI
  induction l generalizing b with
  | nil => exact .inl rfl
  | cons x l ih =>
    rw [List.foldl_cons]
    rcases ih (b := if fitsI x w h = true then mx b x.2.2 else b) with h1 | ⟨i, h1, h2, h3⟩
    · rw [h1]
      split
      · next hx =>
        unfold mx
        split
        · exact .inr ⟨x, by simp, hx, rfl⟩
        · exact .inl rfl
      · exact .inl rfl
    · exact .inr ⟨i, List.mem_cons_of_mem _ h1, h2, h3⟩

/-- the greatest worth of a rectangle, as the code finds it -/
def Wf (l : List It) : Nat → Nat → Nat → Int
  | 0, _, _ => 0
  | n + 1, w, h => most (fun y => Wf l n w (y + 1) + Wf l n w (h - (y + 1))) (most (fun x => Wf l n (x + 1) h + Wf l n (w - (x + 1)) h) (bestI l w h 0) (w / 2)) (h / 2)
def W (l : List It) (w h : Nat) : Int := Wf l (w + h) w h

theorem Wf_fuel (l : List It) : ∀ (n m w h : Nat), 0 < w → 0 < h → w + h ≤ n → w + h ≤ m → Wf l n w h = Wf l m w h
  | 0, m, w, h, hw, hh, h1, h2 => by omega
  | n + 1, 0, w, h, hw, hh, h1, h2 => by omega
  | n + 1, m + 1, w, h, hw, hh, h1, h2 => by
    rw [Wf, Wf]
    have e1 : most (fun x => Wf l n (x + 1) h + Wf l n (w - (x + 1)) h) (bestI l w h 0) (w / 2) = most (fun x => Wf l m (x + 1) h + Wf l m (w - (x + 1)) h) (bestI l w h 0) (w / 2) := most_congr fun x hx => by
      rw [Wf_fuel l n m (x + 1) h (by omega) hh (by omega) (by omega), Wf_fuel l n m (w - (x + 1)) h (by omega) hh (by omega) (by omega)]
    rw [e1]
    exact most_congr fun y hy => by
      rw [Wf_fuel l n m w (y + 1) hw (by omega) (by omega) (by omega), Wf_fuel l n m w (h - (y + 1)) hw (by omega) (by omega) (by omega)]

theorem W_eq (l : List It) {w h : Nat} (hw : 0 < w) (hh : 0 < h) : W l w h = most (fun y => W l w (y + 1) + W l w (h - (y + 1))) (most (fun x => W l (x + 1) h + W l (w - (x + 1)) h) (bestI l w h 0) (w / 2)) (h / 2) := by
  unfold W
  obtain ⟨n, hn⟩ : ∃ n, w + h = n + 1 := ⟨w + h - 1, by omega⟩
  rw [hn, Wf]
  have e1 : most (fun x => Wf l n (x + 1) h + Wf l n (w - (x + 1)) h) (bestI l w h 0) (w / 2) = most (fun x => Wf l (x + 1 + h) (x + 1) h + Wf l (w - (x + 1) + h) (w - (x + 1)) h) (bestI l w h 0) (w / 2) := most_congr fun x hx => by
    rw [Wf_fuel l n _ (x + 1) h (by omega) hh (by omega) (Nat.le_refl _), Wf_fuel l n _ (w - (x + 1)) h (by omega) hh (by omega) (Nat.le_refl _)]
  rw [e1]
  exact most_congr fun y hy => by
    rw [Wf_fuel l n _ w (y + 1) hw (by omega) (by omega) (Nat.le_refl _), Wf_fuel l n _ w (h - (y + 1)) hw (by omega) (by omega) (Nat.le_refl _)]

/-- what is known of it: it is the least number that is at least the worth of an item that fits and of the parts of a cut -/
theorem W_le (l : List It) {w h : Nat} {c : Int} (hw : 0 < w) (hh : 0 < h) : W l w h ≤ c ↔ 0 ≤ c ∧ (∀ i ∈ l, fitsI i w h = true → i.2.2 ≤ c) ∧ (∀ x, 0 < x → x < w → W l x h + W l (w - x) h ≤ c) ∧ ∀ y, 0 < y → y < h → W l w y + W l w (h - y) ≤ c := by
  rw [W_eq l hw hh, most_le, most_le, bestI_le]
  constructor
  · rintro ⟨⟨⟨h1, h2⟩, h3⟩, h4⟩
    refine ⟨h1, h2, fun x x0 xw => ?_, fun y y0 yh => ?_⟩
    · rcases Nat.lt_or_ge (w / 2) x with h5 | h5
      · have := h3 (w - x - 1) (by omega)
        rw [show w - x - 1 + 1 = w - x by omega, show w - (w - x) = x by omega] at this
        omega
      · have := h3 (x - 1) (by omega)
        rw [show x - 1 + 1 = x by omega] at this
        exact this
    · rcases Nat.lt_or_ge (h / 2) y with h5 | h5
      · have := h4 (h - y - 1) (by omega)
        rw [show h - y - 1 + 1 = h - y by omega, show h - (h - y) = y by omega] at this
        omega
      · have := h4 (y - 1) (by omega)
        rw [show y - 1 + 1 = y by omega] at this
        exact this
  · rintro ⟨h1, h2, h3, h4⟩
    exact ⟨⟨⟨h1, h2⟩, fun x hx => h3 (x + 1) (by omega) (by omega)⟩, fun y hy => h4 (y + 1) (by omega) (by omega)⟩
theorem le_W (l : List It) {w h : Nat} (hw : 0 < w) (hh : 0 < h) : 0 ≤ W l w h ∧ (∀ i ∈ l, fitsI i w h = true → i.2.2 ≤ W l w h) ∧ (∀ x, 0 < x → x < w → W l x h + W l (w - x) h ≤ W l w h) ∧ ∀ y, 0 < y → y < h → W l w y + W l w (h - y) ≤ W l w h := (W_le l hw hh).1 (Int.le_refl _)

theorem W_mono_w (l : List It) {w h : Nat} (hw : 0 < w) (hh : 0 < h) : ∀ k, W l w h ≤ W l (w + k) h
  | 0 => Int.le_refl _
  | k + 1 => by
    have h1 := W_mono_w l hw hh k
    have h2 := (le_W l (w := w + (k + 1)) (by omega) hh).2.2.1 (w + k) (by omega) (by omega)
    have h3 := (le_W l (w := w + (k + 1) - (w + k)) (by omega) hh).1
    omega
theorem W_mono_h (l : List It) {w h : Nat} (hw : 0 < w) (hh : 0 < h) : ∀ k, W l w h ≤ W l w (h + k)
  | 0 => Int.le_refl _
  | k + 1 => by
    have h1 := W_mono_h l hw hh k
    have h2 := (le_W l (h := h + (k + 1)) hw (by omega)).2.2.2 (h + k) (by omega) (by omega)
    have h3 := (le_W l (h := h + (k + 1) - (h + k)) hw (by omega)).1
    omega

/-- dearer items -/
theorem W_dear {l l' : List It} (hd : ∀ i ∈ l, ∃ j ∈ l', j.1 = i.1 ∧ j.2.1 = i.2.1 ∧ i.2.2 ≤ j.2.2) : ∀ (n w h : Nat), w + h ≤ n → 0 < w → 0 < h → W l w h ≤ W l' w h
  | 0, w, h, h1, h2, h3 => by omega
  | n + 1, w, h, h1, hw, hh => by
    obtain ⟨a1, a2, a3, a4⟩ := le_W l' hw hh
    refine (W_le l hw hh).2 ⟨a1, fun i hi hf => ?_, fun x x0 xw => ?_, fun y y0 yh => ?_⟩
    · obtain ⟨j, hj, e1, e2, e3⟩ := hd i hi
      have := a2 j hj (by unfold fitsI at *; rw [e1, e2]; exact hf)
      omega
    · have := W_dear hd n x h (by omega) x0 hh
      have := W_dear hd n (w - x) h (by omega) (by omega) hh
      have := a3 x x0 xw
      omega
    · have := W_dear hd n w y (by omega) hw y0
      have := W_dear hd n w (h - y) (by omega) hw (by omega)
      have := a4 y y0 yh
      omega
/-- turned items -/
theorem W_turn_le {l l' : List It} (hd : ∀ i ∈ l, (i.2.1, i.1, i.2.2) ∈ l') : ∀ (n w h : Nat), w + h ≤ n → 0 < w → 0 < h → W l w h ≤ W l' h w
  | 0, w, h, h1, h2, h3 => by omega
  | n + 1, w, h, h1, hw, hh => by
    obtain ⟨a1, a2, a3, a4⟩ := le_W l' hh hw
    refine (W_le l hw hh).2 ⟨a1, fun i hi hf => ?_, fun x x0 xw => ?_, fun y y0 yh => ?_⟩
    · exact a2 (i.2.1, i.1, i.2.2) (hd i hi) (by unfold fitsI at *; simp only [Bool.and_eq_true] at *; exact ⟨hf.2, hf.1⟩)
    · have := W_turn_le hd n x h (by omega) x0 hh
      have := W_turn_le hd n (w - x) h (by omega) (by omega) hh
      have := a4 x x0 xw
      omega
    · have := W_turn_le hd n w y (by omega) hw y0
      have := W_turn_le hd n w (h - y) (by omega) hw (by omega)
      have := a3 y y0 yh
      omega
end Go.Proofs.Ytjmklbkcpjmcaaa.LL
