/-
  Guillotine cuts, plainly: reading plans.
-/
import Derived.Test.YtjmklbkcpjmcaaaL2
namespace Go.Proofs.Ytjmklbkcpjmcaaa.LL
set_option linter.unusedVariables false
set_option linter.unusedSimpArgs false

/-- reading a plan: what is left of it, and the items that are cut, in order -/
def rd (l : List It) : Nat → Nat → Nat → List Ct2 → Option (List Ct2 × List Nat)
  | 0, _, _, _ => none
  | _ + 1, _, _, [] => none
  | n + 1, w, h, (k, x) :: r =>
    if k = 0 then (if x = 0 then some (r, []) else none)
    else if k = 1 then (if 0 ≤ x ∧ x < l.length ∧ fitsI (l.getD x.toNat (0, 0, 0)) w h = true then some (r, [x.toNat]) else none)
    else if k = 2 then (if 1 ≤ x ∧ x < w then (match rd l n x.toNat h r with
      | some (r1, u1) => (match rd l n (w - x.toNat) h r1 with
        | some (r2, u2) => some (r2, u1 ++ u2)
        | none => none)
      | none => none) else none)
    else if k = 3 then (if 1 ≤ x ∧ x < h then (match rd l n w x.toNat r with
      | some (r1, u1) => (match rd l n w (h - x.toNat) r1 with
        | some (r2, u2) => some (r2, u1 ++ u2)
        | none => none)
      | none => none) else none)
    else none

theorem rd_len (l : List It) : ∀ (n w h : Nat) (p r : List Ct2) (u : List Nat), rd l n w h p = some (r, u) → r.length < p.length
  | 0, _, _, _, _, _, hr => by simp [rd] at hr
  | n + 1, w, h, [], r, u, hr => by simp [rd] at hr
  | n + 1, w, h, (k, x) :: p, r, u, hr => by
    unfold rd at hr
    split at hr
    · split at hr
      · simp at hr; rw [← hr.1]; simp
      · simp at hr
    · split at hr
      · split at hr
        · simp at hr; rw [← hr.1]; simp
        · simp at hr
      · split at hr
        · split at hr
          · split at hr
            · next r1 u1 h1 =>
              split at hr
              · next r2 u2 h2 =>
                simp at hr
                have a := rd_len l n _ _ _ _ _ h1
                have b := rd_len l n _ _ _ _ _ h2
                rw [← hr.1]; simp; omega
              · simp at hr
            · simp at hr
          · simp at hr
        · split at hr
          · split at hr
            · split at hr
              · next r1 u1 h1 =>
                split at hr
                · next r2 u2 h2 =>
                  simp at hr
                  have a := rd_len l n _ _ _ _ _ h1
                  have b := rd_len l n _ _ _ _ _ h2
                  rw [← hr.1]; simp; omega
                · simp at hr
              · simp at hr
            · simp at hr
          · simp at hr

theorem rd_fuel (l : List It) : ∀ (n m w h : Nat) (p : List Ct2), p.length < n → p.length < m → rd l n w h p = rd l m w h p
  | 0, _, _, _, _, h1, _ => absurd h1 (Nat.not_lt_zero _)
  | n + 1, 0, _, _, _, _, h2 => absurd h2 (Nat.not_lt_zero _)
  | n + 1, m + 1, w, h, [], _, _ => rfl
  | n + 1, m + 1, w, h, (k, x) :: p, h1, h2 => by
    simp only [List.length_cons] at h1 h2
    have e : ∀ w h, rd l n w h p = rd l m w h p := fun w h => rd_fuel l n m w h p (by omega) (by omega)
    have e2 : ∀ (w' h' w h : Nat) (r1 : List Ct2) (u1 : List Nat), rd l m w' h' p = some (r1, u1) → rd l n w h r1 = rd l m w h r1 := fun w' h' w h r1 u1 hr => by
      have := rd_len l m w' h' p r1 u1 hr
      exact rd_fuel l n m w h r1 (by omega) (by omega)
    unfold rd
    simp only [e]
    split
    · rfl
    · split
      · rfl
      · split
        · split
          · cases hr : rd l m x.toNat h p with
            | none => rfl
            | some y => obtain ⟨r1, u1⟩ := y; simp only [e2 _ _ _ _ _ _ hr]
          · rfl
        · split
          · split
            · cases hr : rd l m w x.toNat p with
              | none => rfl
              | some y => obtain ⟨r1, u1⟩ := y; simp only [e2 _ _ _ _ _ _ hr]
            · rfl
          · rfl

/-- what items are worth, and their area -/
def valU (l : List It) (u : List Nat) : Int := (u.map fun i => (l.getD i (0, 0, 0)).2.2).foldr (· + ·) 0
def arU (l : List It) (u : List Nat) : Int := (u.map fun i => (l.getD i (0, 0, 0)).1 * (l.getD i (0, 0, 0)).2.1).foldr (· + ·) 0
theorem foldr_app (a b : List Int) : (a ++ b).foldr (· + ·) 0 = a.foldr (· + ·) 0 + b.foldr (· + ·) 0 := by
  induction a with
  | nil => simp
  | cons x a ih => simp only [List.cons_append, List.foldr_cons, ih]; omega
theorem valU_app (l : List It) (u v : List Nat) : valU l (u ++ v) = valU l u + valU l v := by unfold valU; rw [List.map_append, foldr_app]
theorem arU_app (l : List It) (u v : List Nat) : arU l (u ++ v) = arU l u + arU l v := by unfold arU; rw [List.map_append, foldr_app]

/-- a plan that is read is worth no more than the greatest worth, and its items have room -/
theorem rd_le (l : List It) (hp : ∀ i ∈ l, 0 ≤ i.1 ∧ 0 ≤ i.2.1) : ∀ (n w h : Nat) (p r : List Ct2) (u : List Nat), 0 < w → 0 < h → rd l n w h p = some (r, u) → valU l u ≤ W l w h ∧ arU l u ≤ (w : Int) * h ∧ ∀ i ∈ u, i < l.length
  | 0, _, _, _, _, _, _, _, hr => by simp [rd] at hr
  | n + 1, w, h, [], r, u, _, _, hr => by simp [rd] at hr
  | n + 1, w, h, (k, x) :: p, r, u, hw, hh, hr => by
    obtain ⟨a1, a2, a3, a4⟩ := le_W l hw hh
    have hwh : (0 : Int) ≤ (w : Int) * h := Int.mul_nonneg (by omega) (by omega)
    unfold rd at hr
    split at hr
    · split at hr
      · simp at hr; rw [hr.2]; exact ⟨a1, hwh, fun i hi => by cases hi⟩
      · simp at hr
    · split at hr
      · split at hr
        · next hc =>
          obtain ⟨c1, c2, c3⟩ := hc
          simp at hr
          have hxl : x.toNat < l.length := by omega
          rw [← hr.2]
          have hg : l.getD x.toNat (0, 0, 0) = l[x.toNat] := by simp [hxl]
          rw [hg] at c3
          have hm : l[x.toNat] ∈ l := List.getElem_mem hxl
          refine ⟨?_, ?_, fun i hi => by simp at hi; omega⟩
          · unfold valU
            simp only [List.map_cons, List.map_nil, List.foldr_cons, List.foldr_nil, hg]
            have := a2 _ hm c3
            omega
          · unfold arU
            simp only [List.map_cons, List.map_nil, List.foldr_cons, List.foldr_nil, hg]
            unfold fitsI at c3
            simp only [Bool.and_eq_true, decide_eq_true_eq] at c3
            have := Int.mul_le_mul c3.1 c3.2 (hp _ hm).2 (by omega)
            omega
        · simp at hr
      · split at hr
        · split at hr
          · next hc =>
            split at hr
            · next r1 u1 h1 =>
              split at hr
              · next r2 u2 h2 =>
                simp at hr
                obtain ⟨b1, b2, b3⟩ := rd_le l hp n _ _ _ _ _ (by omega) hh h1
                obtain ⟨d1, d2, d3⟩ := rd_le l hp n _ _ _ _ _ (by omega) hh h2
                rw [← hr.2]
                refine ⟨?_, ?_, fun i hi => ?_⟩
                · rw [valU_app]
                  have := a3 x.toNat (by omega) (by omega)
                  omega
                · rw [arU_app]
                  have e : (w : Int) * h = (x.toNat : Int) * h + ((w - x.toNat : Nat) : Int) * h := by rw [← Int.add_mul]; congr 1; omega
                  omega
                · rcases List.mem_append.1 hi with h | h
                  · exact b3 i h
                  · exact d3 i h
              · simp at hr
            · simp at hr
          · simp at hr
        · split at hr
          · split at hr
            · next hc =>
              split at hr
              · next r1 u1 h1 =>
                split at hr
                · next r2 u2 h2 =>
                  simp at hr
                  obtain ⟨b1, b2, b3⟩ := rd_le l hp n _ _ _ _ _ hw (by omega) h1
                  obtain ⟨d1, d2, d3⟩ := rd_le l hp n _ _ _ _ _ hw (by omega) h2
                  rw [← hr.2]
                  refine ⟨?_, ?_, fun i hi => ?_⟩
                  · rw [valU_app]
                    have := a4 x.toNat (by omega) (by omega)
                    omega
                  · rw [arU_app]
                    have e : (w : Int) * h = (w : Int) * (x.toNat : Int) + (w : Int) * ((h - x.toNat : Nat) : Int) := by rw [← Int.mul_add]; congr 1; omega
                    omega
                  · rcases List.mem_append.1 hi with h | h
                    · exact b3 i h
                    · exact d3 i h
                · simp at hr
              · simp at hr
            · simp at hr
          · simp at hr

/-- the plan of the rule is read whole, with the greatest worth -/
theorem rd_plan (l : List It) : ∀ (n w h : Nat) (t : List Ct2) (m : Nat), w + h ≤ n → 0 < w → 0 < h → (Pl l w h ++ t).length < m → ∃ u, rd l m w h (Pl l w h ++ t) = some (t, u) ∧ valU l u = W l w h
  | 0, w, h, t, m, h1, h2, h3, _ => by omega
  | n + 1, w, h, t, 0, _, _, _, h4 => absurd h4 (Nat.not_lt_zero _)
  | n + 1, w, h, t, m + 1, h1, hw, hh, h4 => by
    by_cases h0 : W l w h = 0
    · rw [Pl_zero l hw h0]
      exact ⟨[], by simp [rd], by rw [h0]; rfl⟩
    · cases hi : itemAt l w h (W l w h) with
      | some i =>
        rw [Pl_item l hw h0 hi]
        unfold itemAt at hi
        rw [List.findIdx?_eq_some_iff_getElem] at hi
        obtain ⟨hil, hiv, _⟩ := hi
        simp only [Bool.and_eq_true, decide_eq_true_eq] at hiv
        have hg : l.getD i (0, 0, 0) = l[i] := by simp [hil]
        refine ⟨[i], ?_, ?_⟩
        · have : ¬ ((1 : Int) = 0) := by decide
          rw [List.cons_append, List.nil_append, rd, if_neg this, if_pos rfl, if_pos ⟨by omega, by omega, by rw [Int.toNat_natCast, hg]; exact hiv.1⟩]
          simp
        · unfold valU
          simp only [List.map_cons, List.map_nil, List.foldr_cons, List.foldr_nil, hg]
          rw [hiv.2]; omega
      | none =>
        cases hx : cutAt (fun x => W l (x + 1) h + W l (w - (x + 1)) h) (W l w h) (w / 2) with
        | some x =>
          obtain ⟨x1, x2, _⟩ := cutAt_lt hx
          rw [Pl_wide l hw hh h0 hi hx] at h4 ⊢
          simp only [List.cons_append, List.append_assoc, List.length_cons] at h4 ⊢
          obtain ⟨u1, r1, v1⟩ := rd_plan l n (x + 1) h (Pl l (w - (x + 1)) h ++ t) m (by omega) (by omega) hh (by omega)
          obtain ⟨u2, r2, v2⟩ := rd_plan l n (w - (x + 1)) h t m (by omega) (by omega) hh (by simp only [List.length_append] at h4 ⊢; omega)
          refine ⟨u1 ++ u2, ?_, by rw [valU_app, v1, v2]; exact x2⟩
          rw [rd, if_neg (by decide), if_neg (by decide), if_pos rfl, if_pos ⟨by omega, by omega⟩]
          simp only [Int.toNat_natCast, r1, r2]
        | none =>
          cases hy : cutAt (fun y => W l w (y + 1) + W l w (h - (y + 1))) (W l w h) (h / 2) with
          | some y =>
            obtain ⟨x1, x2, _⟩ := cutAt_lt hy
            rw [Pl_high l hw hh h0 hi hx hy] at h4 ⊢
            simp only [List.cons_append, List.append_assoc, List.length_cons] at h4 ⊢
            obtain ⟨u1, r1, v1⟩ := rd_plan l n w (y + 1) (Pl l w (h - (y + 1)) ++ t) m (by omega) hw (by omega) (by omega)
            obtain ⟨u2, r2, v2⟩ := rd_plan l n w (h - (y + 1)) t m (by omega) hw (by omega) (by simp only [List.length_append] at h4 ⊢; omega)
            refine ⟨u1 ++ u2, ?_, by rw [valU_app, v1, v2]; exact x2⟩
            rw [rd, if_neg (by decide), if_neg (by decide), if_neg (by decide), if_pos rfl, if_pos ⟨by omega, by omega⟩]
            simp only [Int.toNat_natCast, r1, r2]
          | none => exact (Pl_some l hw hh h0 hi hx hy).elim

theorem Pl_len (l : List It) : ∀ (n w h : Nat), w + h ≤ n → 0 < w → 0 < h → (Pl l w h).length + 1 ≤ 2 * (w * h)
  | 0, w, h, h1, h2, h3 => by omega
  | n + 1, w, h, h1, hw, hh => by
    have hwh : 0 < w * h := Nat.mul_pos hw hh
    by_cases h0 : W l w h = 0
    · rw [Pl_zero l hw h0]; simp; omega
    · cases hi : itemAt l w h (W l w h) with
      | some i => rw [Pl_item l hw h0 hi]; simp; omega
      | none =>
        cases hx : cutAt (fun x => W l (x + 1) h + W l (w - (x + 1)) h) (W l w h) (w / 2) with
        | some x =>
          obtain ⟨x1, x2, _⟩ := cutAt_lt hx
          rw [Pl_wide l hw hh h0 hi hx]
          have a := Pl_len l n (x + 1) h (by omega) (by omega) hh
          have b := Pl_len l n (w - (x + 1)) h (by omega) (by omega) hh
          have e : w * h = (x + 1) * h + (w - (x + 1)) * h := by rw [← Nat.add_mul]; congr 1; omega
          simp; omega
        | none =>
          cases hy : cutAt (fun y => W l w (y + 1) + W l w (h - (y + 1))) (W l w h) (h / 2) with
          | some y =>
            obtain ⟨x1, x2, _⟩ := cutAt_lt hy
            rw [Pl_high l hw hh h0 hi hx hy]
            have a := Pl_len l n w (y + 1) (by omega) hw (by omega)
            have b := Pl_len l n w (h - (y + 1)) (by omega) hw (by omega)
            have e : w * h = w * (y + 1) + w * (h - (y + 1)) := by rw [← Nat.mul_add]; congr 1; omega
            simp; omega
          | none => exact (Pl_some l hw hh h0 hi hx hy).elim
end Go.Proofs.Ytjmklbkcpjmcaaa.LL
