/-
  Plain laws: plans that are read, and what is cut, counted.
-/
import Derived.Test.YtjmklbkcpjmcaaaL1
namespace Go.Proofs.Ytjmklbkcpjmcaaa.LL
set_option linter.unusedVariables false
set_option linter.unusedSimpArgs false

/-- reading a plan, with room enough -/
def rdP (l : List It) (w h : Nat) (p : List Ct2) : Option (List Ct2 × List Nat) := rd l (p.length + 1) w h p

theorem rd_rdP (l : List It) {n w h : Nat} {p : List Ct2} (hn : p.length < n) : rd l n w h p = rdP l w h p := rd_fuel l n (p.length + 1) w h p hn (by omega)

theorem rdP_len {l : List It} {w h : Nat} {p r : List Ct2} {u : List Nat} (hr : rdP l w h p = some (r, u)) : r.length < p.length := rd_len l _ _ _ _ _ _ hr

theorem rdP_nil (l : List It) (w h : Nat) : rdP l w h [] = none := by simp [rdP, rd]
theorem rdP_waste (l : List It) (w h : Nat) (x : Int) (r : List Ct2) : rdP l w h ((0, x) :: r) = if x = 0 then some (r, []) else none := by simp [rdP, rd]
theorem rdP_item (l : List It) (w h : Nat) (x : Int) (r : List Ct2) : rdP l w h ((1, x) :: r) = if 0 ≤ x ∧ x < l.length ∧ fitsI (l.getD x.toNat (0, 0, 0)) w h = true then some (r, [x.toNat]) else none := by simp [rdP, rd]
theorem rdP_wide (l : List It) (w h : Nat) (x : Int) (r : List Ct2) : rdP l w h ((2, x) :: r) = if 1 ≤ x ∧ x < w then (match rdP l x.toNat h r with
    | some (r1, u1) => (match rdP l (w - x.toNat) h r1 with
      | some (r2, u2) => some (r2, u1 ++ u2)
      | none => none)
    | none => none) else none := by
  rw [rdP, List.length_cons, rd, if_neg (by decide), if_neg (by decide), if_pos rfl, rd_rdP l (by omega)]
  split
  · cases h1 : rdP l x.toNat h r with
    | none => rfl
    | some q =>
      obtain ⟨r1, u1⟩ := q
      have := rdP_len h1
      simp only
      rw [rd_rdP l (by omega)]
      rfl
  · rfl
theorem rdP_high (l : List It) (w h : Nat) (x : Int) (r : List Ct2) : rdP l w h ((3, x) :: r) = if 1 ≤ x ∧ x < h then (match rdP l w x.toNat r with
    | some (r1, u1) => (match rdP l w (h - x.toNat) r1 with
      | some (r2, u2) => some (r2, u1 ++ u2)
      | none => none)
    | none => none) else none := by
  rw [rdP, List.length_cons, rd, if_neg (by decide), if_neg (by decide), if_neg (by decide), if_pos rfl, rd_rdP l (by omega)]
  split
  · cases h1 : rdP l w x.toNat r with
    | none => rfl
    | some q =>
      obtain ⟨r1, u1⟩ := q
      have := rdP_len h1
      simp only
      rw [rd_rdP l (by omega)]
      rfl
  · rfl
theorem rdP_other (l : List It) (w h : Nat) (k x : Int) (r : List Ct2) (h0 : k ≠ 0) (h1 : k ≠ 1) (h2 : k ≠ 2) (h3 : k ≠ 3) : rdP l w h ((k, x) :: r) = none := by simp [rdP, rd, h0, h1, h2, h3]

/-- what is used is no more than what is read -/
theorem rd_use (l : List It) : ∀ (n w h : Nat) (p r : List Ct2) (u : List Nat), rd l n w h p = some (r, u) → u.length + r.length ≤ p.length ∧ ∀ i ∈ u, i < l.length
  | 0, _, _, _, _, _, hr => by simp [rd] at hr
  | n + 1, w, h, [], r, u, hr => by simp [rd] at hr
  | n + 1, w, h, (k, x) :: p, r, u, hr => by
    rw [rd] at hr
    split at hr
    · split at hr
      · simp only [Option.some.injEq, Prod.mk.injEq] at hr
        obtain ⟨rfl, rfl⟩ := hr
        exact ⟨by simp, fun i hi => by simp at hi⟩
      · cases hr
    · split at hr
      · split at hr
        · next hx =>
          simp only [Option.some.injEq, Prod.mk.injEq] at hr
          obtain ⟨rfl, rfl⟩ := hr
          refine ⟨by simp; omega, fun i hi => ?_⟩
          obtain rfl := List.mem_singleton.1 hi
          omega
        · cases hr
      · split at hr
        · split at hr
          · cases h1 : rd l n x.toNat h p with
            | none => rw [h1] at hr; cases hr
            | some q =>
              obtain ⟨r1, u1⟩ := q
              rw [h1] at hr
              simp only at hr
              cases h2 : rd l n (w - x.toNat) h r1 with
              | none => rw [h2] at hr; cases hr
              | some q =>
                obtain ⟨r2, u2⟩ := q
                rw [h2] at hr
                simp only [Option.some.injEq, Prod.mk.injEq] at hr
                obtain ⟨rfl, rfl⟩ := hr
                have e1 := rd_use l n _ _ _ _ _ h1
                have e2 := rd_use l n _ _ _ _ _ h2
                refine ⟨by simp only [List.length_append, List.length_cons]; omega, fun i hi => ?_⟩
                rcases List.mem_append.1 hi with hi | hi
                · exact e1.2 i hi
                · exact e2.2 i hi
          · cases hr
        · split at hr
          · split at hr
            · cases h1 : rd l n w x.toNat p with
              | none => rw [h1] at hr; cases hr
              | some q =>
                obtain ⟨r1, u1⟩ := q
                rw [h1] at hr
                simp only at hr
                cases h2 : rd l n w (h - x.toNat) r1 with
                | none => rw [h2] at hr; cases hr
                | some q =>
                  obtain ⟨r2, u2⟩ := q
                  rw [h2] at hr
                  simp only [Option.some.injEq, Prod.mk.injEq] at hr
                  obtain ⟨rfl, rfl⟩ := hr
                  have e1 := rd_use l n _ _ _ _ _ h1
                  have e2 := rd_use l n _ _ _ _ _ h2
                  refine ⟨by simp only [List.length_append, List.length_cons]; omega, fun i hi => ?_⟩
                  rcases List.mem_append.1 hi with hi | hi
                  · exact e1.2 i hi
                  · exact e2.2 i hi
            · cases hr
          · cases hr
theorem rdP_use {l : List It} {w h : Nat} {p r : List Ct2} {u : List Nat} (hr : rdP l w h p = some (r, u)) : u.length + r.length ≤ p.length ∧ ∀ i ∈ u, i < l.length := rd_use l _ _ _ _ _ _ hr

/-- items counted -/
def addU (m : List Int) (u : List Nat) : List Int := u.foldl (fun m i => m.set i (m.getD i 0 + 1)) m
theorem addU_nil (m : List Int) : addU m [] = m := rfl
theorem addU_app (m : List Int) (u v : List Nat) : addU m (u ++ v) = addU (addU m u) v := by simp [addU, List.foldl_append]
theorem addU_one {m : List Int} {k : Nat} (hk : k < m.length) : addU m [k] = m.set k (m[k] + 1) := by
  simp only [addU, List.foldl_cons, List.foldl_nil, List.getD_eq_getElem?_getD, List.getElem?_eq_getElem hk, Option.getD_some]
theorem addU_len (m : List Int) : ∀ u, (addU m u).length = m.length := by
  intro u
  unfold addU
  induction u generalizing m with
  | nil => rfl
  | cons i u ih => rw [List.foldl_cons, ih]; simp
theorem addU_bd {N : Int} : ∀ (u : List Nat) (m : List Int), (∀ x ∈ m, 0 ≤ x ∧ x + u.length ≤ N) → 0 ≤ N → ∀ x ∈ addU m u, 0 ≤ x ∧ x ≤ N
  | [], m, h, _, x, hx => by have := h x hx; simp at this; omega
  | i :: u, m, h, hN, x, hx => by
    have hx' : x ∈ addU (m.set i (m.getD i 0 + 1)) u := hx
    by_cases hi : i < m.length
    · refine addU_bd u _ (fun y hy => ?_) hN x hx'
      rcases List.mem_or_eq_of_mem_set hy with hy | rfl
      · have := h y hy
        simp only [List.length_cons] at this
        omega
      · rw [List.getD_eq_getElem?_getD, List.getElem?_eq_getElem hi, Option.getD_some]
        have := h m[i] (List.getElem_mem hi)
        simp only [List.length_cons] at this
        omega
    · rw [List.set_eq_of_length_le (by omega)] at hx'
      refine addU_bd u _ (fun y hy => ?_) hN x hx'
      have := h y hy
      simp only [List.length_cons] at this
      omega
/-- the counts stay within their bounds -/
theorem addU_bd2 {N : Int} {u : List Nat} {m : List Int} {k : Nat} (h : ∀ x ∈ m, 0 ≤ x ∧ x + ((u.length + k : Nat) : Int) ≤ N) (hN : (k : Int) ≤ N) : ∀ x ∈ addU m u, 0 ≤ x ∧ x + k ≤ N := fun x hx => by
  have := addU_bd (N := N - k) u m (fun y hy => by have := h y hy; omega) (by omega) x hx
  omega

/-- what counted items come to -/
def dotM (l : List It) (m : List Int) : Nat → Int
  | 0 => 0
  | k + 1 => dotM l m k + m.getD k 0 * (l.getD k (0, 0, 0)).2.2
def dotA (l : List It) (m : List Int) : Nat → Int
  | 0 => 0
  | k + 1 => dotA l m k + m.getD k 0 * (l.getD k (0, 0, 0)).1 * (l.getD k (0, 0, 0)).2.1

theorem getD_set (m : List Int) (i k : Nat) (x : Int) (hi : i < m.length) : (m.set i x).getD k 0 = if k = i then x else m.getD k 0 := by
  rw [List.getD_eq_getElem?_getD, List.getElem?_set, List.getD_eq_getElem?_getD]
  by_cases h : i = k
  · subst h; simp [hi]
  · rw [if_neg h, if_neg (fun e => h e.symm)]

theorem dotM_set (l : List It) (m : List Int) (i : Nat) (hi : i < m.length) : ∀ k, dotM l (m.set i (m.getD i 0 + 1)) k = dotM l m k + if i < k then (l.getD i (0, 0, 0)).2.2 else 0
  | 0 => by simp [dotM]
  | k + 1 => by
    rw [dotM, dotM, dotM_set l m i hi k, getD_set m i k _ hi]
    by_cases h : k = i
    · subst h
      rw [if_pos rfl, if_neg (by omega), if_pos (by omega), Int.add_mul]; omega
    · rw [if_neg h]
      by_cases h2 : i < k
      · rw [if_pos h2, if_pos (by omega)]; omega
      · rw [if_neg h2, if_neg (by omega)]; omega
theorem dotA_set (l : List It) (m : List Int) (i : Nat) (hi : i < m.length) : ∀ k, dotA l (m.set i (m.getD i 0 + 1)) k = dotA l m k + if i < k then (l.getD i (0, 0, 0)).1 * (l.getD i (0, 0, 0)).2.1 else 0
  | 0 => by simp [dotA]
  | k + 1 => by
    rw [dotA, dotA, dotA_set l m i hi k, getD_set m i k _ hi]
    by_cases h : k = i
    · subst h
      rw [if_pos rfl, if_neg (by omega), if_pos (by omega), Int.add_mul, Int.add_mul, Int.one_mul]; omega
    · rw [if_neg h]
      by_cases h2 : i < k
      · rw [if_pos h2, if_pos (by omega)]; omega
      · rw [if_neg h2, if_neg (by omega)]; omega

theorem dotM_addU (l : List It) : ∀ (u : List Nat) (m : List Int), m.length = l.length → (∀ i ∈ u, i < l.length) → dotM l (addU m u) l.length = dotM l m l.length + valU l u
  | [], m, _, _ => by simp [addU, valU]
  | i :: u, m, hm, hu => by
    have hi := hu i (by simp)
    have e := dotM_addU l u (m.set i (m.getD i 0 + 1)) (by simpa using hm) (fun j hj => hu j (by simp [hj]))
    have e2 : addU m (i :: u) = addU (m.set i (m.getD i 0 + 1)) u := rfl
    rw [e2, e, dotM_set l m i (by omega), if_pos hi]
    simp only [valU, List.map_cons, List.foldr_cons]
    omega
theorem dotA_addU (l : List It) : ∀ (u : List Nat) (m : List Int), m.length = l.length → (∀ i ∈ u, i < l.length) → dotA l (addU m u) l.length = dotA l m l.length + arU l u
  | [], m, _, _ => by simp [addU, arU]
  | i :: u, m, hm, hu => by
    have hi := hu i (by simp)
    have e := dotA_addU l u (m.set i (m.getD i 0 + 1)) (by simpa using hm) (fun j hj => hu j (by simp [hj]))
    have e2 : addU m (i :: u) = addU (m.set i (m.getD i 0 + 1)) u := rfl
    rw [e2, e, dotA_set l m i (by omega), if_pos hi]
    simp only [arU, List.map_cons, List.foldr_cons]
    omega
theorem getD_rep (n k : Nat) : (List.replicate n (0 : Int)).getD k 0 = 0 := by
  rw [List.getD_eq_getElem?_getD, List.getElem?_replicate]
  split <;> rfl
theorem dotM_zero (l : List It) (n : Nat) : ∀ k, dotM l (List.replicate n 0) k = 0
  | 0 => rfl
  | k + 1 => by rw [dotM, dotM_zero l n k, getD_rep]; omega
theorem dotA_zero (l : List It) (n : Nat) : ∀ k, dotA l (List.replicate n 0) k = 0
  | 0 => rfl
  | k + 1 => by rw [dotA, dotA_zero l n k, getD_rep, Int.zero_mul, Int.zero_mul]; omega

/-- values are no less than nothing, and no more than they may be -/
theorem valU_bd (l : List It) {M : Int} (hl : ∀ i ∈ l, 0 ≤ i.2.2 ∧ i.2.2 ≤ M) (hM : 0 ≤ M) : ∀ u : List Nat, 0 ≤ valU l u ∧ valU l u ≤ M * u.length
  | [] => by simp [valU]
  | i :: u => by
    have ih := valU_bd l hl hM u
    have e : valU l (i :: u) = (l.getD i (0, 0, 0)).2.2 + valU l u := rfl
    have h1 : 0 ≤ (l.getD i (0, 0, 0)).2.2 ∧ (l.getD i (0, 0, 0)).2.2 ≤ M := by
      rw [List.getD_eq_getElem?_getD]
      cases h : l[i]? with
      | none => exact ⟨Int.le_refl _, hM⟩
      | some x => exact hl x (List.mem_of_getElem? h)
    have e3 : M * ((i :: u).length : Int) = M * u.length + M := by rw [List.length_cons]; push_cast; rw [Int.mul_add, Int.mul_one]
    rw [e, e3]
    omega

end Go.Proofs.Ytjmklbkcpjmcaaa.LL
