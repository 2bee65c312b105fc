/-
  Guillotine cuts, plainly: the plan of the rule.
-/
import Derived.Test.YtjmklbkcpjmcaaaL1
namespace Go.Proofs.Ytjmklbkcpjmcaaa.LL
set_option linter.unusedVariables false
set_option linter.unusedSimpArgs false

abbrev Ct2 := Int × Int
/-- the number of the first item that fits and has just this worth -/
def itemAt (l : List It) (w h : Nat) (v : Int) : Option Nat := l.findIdx? fun i => fitsI i w h && decide (i.2.2 = v)
/-- the first cut, from 1 on, up to n, with this sum -/
def cutAt (f : Nat → Int) (v : Int) (n : Nat) : Option Nat := (List.range n).find? fun x => decide (f x = v)
def Pf (l : List It) : Nat → Nat → Nat → List Ct2
  | 0, _, _ => []
  | n + 1, w, h =>
    if W l w h = 0 then [(0, 0)] else
    match itemAt l w h (W l w h) with
    | some i => [(1, (i : Int))]
    | none => match cutAt (fun x => W l (x + 1) h + W l (w - (x + 1)) h) (W l w h) (w / 2) with
      | some x => (2, ((x + 1 : Nat) : Int)) :: (Pf l n (x + 1) h ++ Pf l n (w - (x + 1)) h)
      | none => match cutAt (fun y => W l w (y + 1) + W l w (h - (y + 1))) (W l w h) (h / 2) with
        | some y => (3, ((y + 1 : Nat) : Int)) :: (Pf l n w (y + 1) ++ Pf l n w (h - (y + 1)))
        | none => []
def Pl (l : List It) (w h : Nat) : List Ct2 := Pf l (w + h) w h

theorem cutAt_lt {f : Nat → Int} {v : Int} {n x : Nat} (h : cutAt f v n = some x) : x < n ∧ f x = v ∧ ∀ j, j < x → f j ≠ v := by
  unfold cutAt at h
  rw [List.find?_eq_some_iff_getElem] at h
  obtain ⟨h1, i, hi, e, h2⟩ := h
  simp at hi e h1
  subst e
  refine ⟨hi, h1, fun j hj => ?_⟩
  have := h2 j hj
  simpa using this
theorem cutAt_none {f : Nat → Int} {v : Int} {n : Nat} (h : cutAt f v n = none) : ∀ j, j < n → f j ≠ v := by
  unfold cutAt at h
  rw [List.find?_eq_none] at h
  intro j hj
  have := h j (List.mem_range.2 hj)
  simpa using this
theorem cutAt_some {f : Nat → Int} {v : Int} {n x : Nat} (h1 : x < n) (h2 : f x = v) (h3 : ∀ j, j < x → f j ≠ v) : cutAt f v n = some x := by
  unfold cutAt
  rw [List.find?_eq_some_iff_getElem]
  exact ⟨by simpa using h2, x, by simpa using h1, by simp, fun j hj => by simpa using h3 j hj⟩

theorem Pf_fuel (l : List It) : ∀ (n m w h : Nat), 0 < w → 0 < h → w + h ≤ n → w + h ≤ m → Pf l n w h = Pf l m w h
  | 0, m, w, h, hw, hh, h1, h2 => by omega
  | n + 1, 0, w, h, hw, hh, h1, h2 => by omega
  | n + 1, m + 1, w, h, hw, hh, h1, h2 => by
    rw [Pf, Pf]
    split
    · rfl
    · split
      · rfl
      · split
        · next x hx =>
          have := (cutAt_lt hx).1
          rw [Pf_fuel l n m (x + 1) h (by omega) hh (by omega) (by omega), Pf_fuel l n m (w - (x + 1)) h (by omega) hh (by omega) (by omega)]
        · split
          · next y hy =>
            have := (cutAt_lt hy).1
            rw [Pf_fuel l n m w (y + 1) hw (by omega) (by omega) (by omega), Pf_fuel l n m w (h - (y + 1)) hw (by omega) (by omega) (by omega)]
          · rfl

/-- there is always a way to reach the greatest worth -/
theorem W_cases (l : List It) {w h : Nat} (hw : 0 < w) (hh : 0 < h) : W l w h = 0 ∨ (∃ i ∈ l, fitsI i w h = true ∧ i.2.2 = W l w h) ∨ (∃ x, x < w / 2 ∧ W l (x + 1) h + W l (w - (x + 1)) h = W l w h) ∨ ∃ y, y < h / 2 ∧ W l w (y + 1) + W l w (h - (y + 1)) = W l w h := by
  have e := W_eq l hw hh
  rcases most_cases (f := fun y => W l w (y + 1) + W l w (h - (y + 1))) (b := most (fun x => W l (x + 1) h + W l (w - (x + 1)) h) (bestI l w h 0) (w / 2)) (h / 2) with h1 | ⟨y, h1, h2⟩
  · rcases most_cases (f := fun x => W l (x + 1) h + W l (w - (x + 1)) h) (b := bestI l w h 0) (w / 2) with h3 | ⟨x, h3, h4⟩
    · rcases bestI_cases (l := l) (w := w) (h := h) (b := 0) with h5 | ⟨i, h5, h6, h7⟩
      · exact .inl (by rw [e, h1, h3, h5])
      · exact .inr (.inl ⟨i, h5, h6, by rw [e, h1, h3, h7]⟩)
    · exact .inr (.inr (.inl ⟨x, h3, by rw [e, h1, h4]⟩))
  · exact .inr (.inr (.inr ⟨y, h1, by rw [e, h2]⟩))

theorem Pl_zero (l : List It) {w h : Nat} (hw : 0 < w) (h0 : W l w h = 0) : Pl l w h = [(0, 0)] := by
  unfold Pl
  obtain ⟨n, hn⟩ : ∃ n, w + h = n + 1 := ⟨w + h - 1, by omega⟩
  rw [hn, Pf, if_pos h0]
theorem Pl_item (l : List It) {w h i : Nat} (hw : 0 < w) (h0 : W l w h ≠ 0) (hi : itemAt l w h (W l w h) = some i) : Pl l w h = [(1, (i : Int))] := by
  unfold Pl
  obtain ⟨n, hn⟩ : ∃ n, w + h = n + 1 := ⟨w + h - 1, by omega⟩
  rw [hn, Pf, if_neg h0, hi]
theorem Pl_wide (l : List It) {w h x : Nat} (hw : 0 < w) (hh : 0 < h) (h0 : W l w h ≠ 0) (hi : itemAt l w h (W l w h) = none) (hx : cutAt (fun x => W l (x + 1) h + W l (w - (x + 1)) h) (W l w h) (w / 2) = some x) :
    Pl l w h = (2, ((x + 1 : Nat) : Int)) :: (Pl l (x + 1) h ++ Pl l (w - (x + 1)) h) := by
  have := (cutAt_lt hx).1
  unfold Pl
  obtain ⟨n, hn⟩ : ∃ n, w + h = n + 1 := ⟨w + h - 1, by omega⟩
  rw [hn, Pf, if_neg h0, hi]
  simp only [hx]
  rw [Pf_fuel l n (x + 1 + h) (x + 1) h (by omega) hh (by omega) (Nat.le_refl _), Pf_fuel l n (w - (x + 1) + h) (w - (x + 1)) h (by omega) hh (by omega) (Nat.le_refl _)]
theorem Pl_high (l : List It) {w h y : Nat} (hw : 0 < w) (hh : 0 < h) (h0 : W l w h ≠ 0) (hi : itemAt l w h (W l w h) = none) (hx : cutAt (fun x => W l (x + 1) h + W l (w - (x + 1)) h) (W l w h) (w / 2) = none)
    (hy : cutAt (fun y => W l w (y + 1) + W l w (h - (y + 1))) (W l w h) (h / 2) = some y) : Pl l w h = (3, ((y + 1 : Nat) : Int)) :: (Pl l w (y + 1) ++ Pl l w (h - (y + 1))) := by
  have := (cutAt_lt hy).1
  unfold Pl
  obtain ⟨n, hn⟩ : ∃ n, w + h = n + 1 := ⟨w + h - 1, by omega⟩
  rw [hn, Pf, if_neg h0, hi]
  simp only [hx, hy]
  rw [Pf_fuel l n (w + (y + 1)) w (y + 1) hw (by omega) (by omega) (Nat.le_refl _), Pf_fuel l n (w + (h - (y + 1))) w (h - (y + 1)) hw (by omega) (by omega) (Nat.le_refl _)]
theorem Pl_some (l : List It) {w h : Nat} (hw : 0 < w) (hh : 0 < h) (h0 : W l w h ≠ 0) (hi : itemAt l w h (W l w h) = none) (hx : cutAt (fun x => W l (x + 1) h + W l (w - (x + 1)) h) (W l w h) (w / 2) = none)
    (hy : cutAt (fun y => W l w (y + 1) + W l w (h - (y + 1))) (W l w h) (h / 2) = none) : False := by
  rcases W_cases l hw hh with h1 | ⟨i, h1, h2, h3⟩ | ⟨x, h1, h2⟩ | ⟨y, h1, h2⟩
  · exact h0 h1
  · unfold itemAt at hi
    rw [List.findIdx?_eq_none_iff] at hi
    have := hi i h1
    rw [h2, h3] at this
    simp at this
  · exact cutAt_none hx x h1 h2
  · exact cutAt_none hy y h1 h2
end Go.Proofs.Ytjmklbkcpjmcaaa.LL
