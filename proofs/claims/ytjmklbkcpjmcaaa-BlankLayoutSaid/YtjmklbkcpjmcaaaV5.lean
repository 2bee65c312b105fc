/-
  slices.Compact at vectors; hull; Valid.
-/
import Derived.Test.YtjmklbkcpjmcaaaV4
namespace Go.Proofs.Ytjmklbkcpjmcaaa.V
open Go Go.RowKit Go.Proofs.Ytjmklbkcpjmcaaa.H
set_option linter.unusedVariables false
set_option linter.unusedSimpArgs false

/-- of equal neighbours one is kept -/
def dd : List Pt → List Pt
  | [] => []
  | [x] => [x]
  | x :: y :: l => if x = y then dd (y :: l) else x :: dd (y :: l)

theorem dd_snoc (x y : Pt) : ∀ l, dd (l ++ [x, y]) = if x = y then dd (l ++ [x]) else dd (l ++ [x]) ++ [y]
  | [] => by
    show dd [x, y] = if x = y then dd [x] else dd [x] ++ [y]
    simp only [dd]
    split
    · next h => rw [h]
    · rfl
  | [a] => by
    have := dd_snoc x y []
    show dd (a :: x :: [y]) = if x = y then dd (a :: x :: []) else dd (a :: x :: []) ++ [y]
    simp only [List.nil_append] at this
    have e1 : dd [a, x, y] = if a = x then dd [x, y] else a :: dd [x, y] := rfl
    have e2 : dd [a, x] = if a = x then dd [x] else a :: dd [x] := rfl
    rw [e1, e2, this]
    split <;> split <;> simp
  | a :: b :: l => by
    have := dd_snoc x y (b :: l)
    show dd (a :: b :: (l ++ [x, y])) = if x = y then dd (a :: b :: (l ++ [x])) else dd (a :: b :: (l ++ [x])) ++ [y]
    simp only [List.cons_append] at this
    have e1 : dd (a :: b :: (l ++ [x, y])) = if a = b then dd (b :: (l ++ [x, y])) else a :: dd (b :: (l ++ [x, y])) := rfl
    have e2 : dd (a :: b :: (l ++ [x])) = if a = b then dd (b :: (l ++ [x])) else a :: dd (b :: (l ++ [x])) := rfl
    rw [e1, e2, this]
    split <;> split <;> simp

theorem dd_take {ps : List Pt} {m : Nat} (hm : m + 1 < ps.length) : dd (ps.take (m + 2)) = if ps[m] = ps[m + 1] then dd (ps.take (m + 1)) else dd (ps.take (m + 1)) ++ [ps[m + 1]] := by
  have h1 : ps.take (m + 2) = ps.take m ++ [ps[m], ps[m + 1]] := by
    rw [List.take_add_one (i := m + 1), List.take_add_one (i := m), List.getElem?_eq_getElem hm, List.getElem?_eq_getElem (by omega), List.append_assoc]
    rfl
  have h2 : ps.take (m + 1) = ps.take m ++ [ps[m]] := by
    rw [List.take_add_one, List.getElem?_eq_getElem (by omega)]
    rfl
  rw [h1, h2]
  exact dd_snoc _ _ _

theorem dd_sub : ∀ ps : List Pt, (dd ps).Sublist ps
  | [] => .refl _
  | [x] => .refl _
  | x :: y :: l => by
    unfold dd
    split
    · exact (dd_sub (y :: l)).cons _
    · exact (dd_sub (y :: l)).cons_cons _

theorem dd_ne : ∀ {ps : List Pt}, ps ≠ [] → dd ps ≠ []
  | [], h => absurd rfl h
  | [x], _ => by simp [dd]
  | x :: y :: l, _ => by
    unfold dd
    split
    · exact dd_ne (by simp)
    · simp

structure CoG where
  k : Nat
  i : Nat
  xs : List Pt

theorem compact_ct (b c n : Nat) (ps : List Pt) (w : World) (h : (ownV (some b) c ps).holds w) (hn : n = ps.length) (hlen : ps.length ≤ 1099511627776) :
    Ct P 110 #[slv (some b) n c] w [b] (fun v L => v = slv (some b) (dd ps).length c ∧ L = [ownV (some b) c (dd ps)]) := by
  subst hn
  have hpos := (Res.own_cap h).1
  refine Ct.of_body (rs := [.tmp 2]) (N := 61) (L := [ownV (some b) c ps]) Try.func110 rfl rfl rfl (by kernel_rfl) rfl (Mem.own rfl h) ?_
  refine HW.seq (HW.region [(0, .st)] rfl rfl ?_)
  refine Plan.assign (v := .slice _ _ _) rfl rfl rfl ?_
  refine Plan.done ?_
  refine HW.seq ?_
  refine HW.seq (HW.region [(0, .st), (1, .st), (2, .st)] rfl rfl ?_)
  refine Plan.move (v := .slice _ _ _) rfl rfl rfl ?_
  refine Plan.len rfl rfl slV rfl ?_
  refine Plan.cmp2 rfl rfl rfl rfl rfl (fun h8 => ?_) (fun h8 => ?_)
  · replace h8 := of_decide_eq_true h8
    have hdd : dd ps = ps := by
      match ps, h8 with
      | [], _ => rfl
      | [x], _ => rfl
      | x :: y :: l, h => exact absurd h (by simp; omega)
    refine Plan.done ?_
    refine HW.cond_true rfl ?_
    refine HW.seq (HW.region [(0, .st), (1, .st)] rfl rfl ?_)
    refine Plan.move (v := .slice _ _ _) rfl rfl rfl ?_
    refine Plan.assign (v := .slice _ _ _) rfl rfl rfl ?_
    refine Plan.done ?_
    exact HW.ret ⟨rfl, _, [ownV (some b) c ps], .tmp rfl .nil, .refl _, (by rw [hdd]; rfl), by rw [hdd]⟩
  · replace h8 := of_decide_eq_false h8
    refine Plan.done ?_
    refine HW.cond_false rfl ?_
    refine HW.skip ?_
    refine HW.seq ?_
    refine HW.seq (HW.region [(0, .st)] rfl rfl ?_)
    refine Plan.assign (v := .int _ _) rfl rfl rfl ?_
    refine Plan.done ?_
    refine HW.block ?_
    refine HW.loopL (G := Nat) [2, 3, 4, 5, 10, 11, 12, 13, 14, 15, 16, 17, 18, 19, 20, 21, 22, 23, 24, 25, 26, 27, 28, 29, 30, 31, 32, 33, 34, 35, 36, 37, 38, 39, 40, 41, 42, 43, 44, 45, 46, 47, 48, 49, 50, 51, 52, 53, 54, 55, 56, 57, 58, 59] (fun g => [(3, int g)]) (fun g => [ownV (some b) c ps]) (fun g => 1 ≤ g ∧ g ≤ ps.length ∧ dd (ps.take g) = ps.take g) (fun g => ps.length - g) (1) ⟨rfl, trivial⟩ (Ent.refl _ _) (⟨Nat.le_refl _, by omega, by
          match ps, h8 with
          | [], h => exact absurd h (by simp)
          | x :: l, _ => rfl⟩) (fun g F hok => ?_)
    obtain ⟨hk1, hk, hdk⟩ := hok
    refine HW.seq ?_
    refine HW.seq (HW.region [(0, .st), (1, .st), (2, .st), (3, .st)] rfl rfl ?_)
    refine Plan.move (v := .int _ _) rfl rfl rfl ?_
    refine Plan.move (v := .slice _ _ _) rfl rfl rfl ?_
    refine Plan.len rfl rfl slV rfl ?_
    refine Plan.cmp2 rfl rfl rfl rfl rfl (fun h13 => ?_) (fun h13 => ?_)
    · replace h13 := of_decide_eq_true h13
      have hlt : g < ps.length := by omega
      obtain ⟨m, rfl⟩ : ∃ m, g = m + 1 := ⟨g - 1, by omega⟩
      have hd2 := dd_take hlt
      refine Plan.done ?_
      refine HW.cond_true rfl ?_
      refine HW.skip ?_
      refine HW.seq ?_
      refine HW.block ?_
      refine HW.seq (HW.region_any [] [(0, .st), (1, .st), (2, .st), (3, .st), (4, .st), (5, .st), (6, .st), (7, .st), (8, .st), (9, .st)] mix (by kernel_rfl) (fun _ _ _ _ _ h => h) (zeros rfl) ?_)
      refine Plan.move (v := .slice _ _ _) rfl rfl rfl ?_
      refine Plan.move (v := .int _ _) rfl rfl rfl ?_
      refine Plan.indexN (m + 1) rfl rfl slV sizV rfl rfl rfl rfl (hlt) ?_
      refine Plan.loadAgg rfl rfl aggV sizV rfl (Sees.ownAt 0 rfl b rfl (m + 1) hlt rfl) rfl ?_
      refine Plan.move (v := .slice _ _ _) rfl rfl rfl ?_
      refine Plan.move (v := .int _ _) rfl rfl rfl ?_
      refine Plan.arithI rfl rfl rfl rfl rfl (by omega) ?_
      refine Plan.indexN (m) rfl rfl slV sizV rfl rfl rfl (by omega) (by omega) ?_
      refine Plan.loadAgg rfl rfl aggV sizV rfl (Sees.ownAt 0 rfl b rfl m (by omega) rfl) rfl ?_
      refine Plan.eqV ps[m + 1] ps[m] rfl rfl rfl rfl rfl (fun h25 => ?_) (fun h25 => ?_)
      · skip
        rw [if_pos h25.symm, hdk] at hd2
        refine Plan.done ?_
        refine HW.cond_true rfl ?_
        refine HW.seq (HW.region [(0, .st), (1, .st), (2, .st), (3, .st)] rfl rfl ?_)
        refine Plan.move (v := .slice _ _ _) rfl rfl rfl ?_
        refine Plan.move (v := .int _ _) rfl rfl rfl ?_
        refine Plan.sliceLo (m + 1) rfl rfl slV sizV rfl rfl rfl rfl (by omega) (by omega) ?_
        refine Plan.assign (v := .slice _ _ _) rfl rfl rfl ?_
        refine Plan.done ?_
        refine HW.seq ?_
        refine HW.seq (HW.region [(0, .st)] rfl rfl ?_)
        refine Plan.assign (v := .int _ _) rfl rfl rfl ?_
        refine Plan.done ?_
        refine HW.block ?_
        refine HW.loopL (G := CoG) [3, 5, 29, 30, 31, 32, 33, 34, 35, 36, 37, 38, 39, 40, 41, 42, 43, 44, 45, 46, 47, 48, 49, 50, 51, 52, 53] (fun g => [(5, int g.k), (3, int g.i)]) (fun g => [ownV (some b) c g.xs]) (fun g => 1 ≤ g.k ∧ g.k + (m + 1) ≤ ps.length ∧ g.xs.length = ps.length ∧ g.i + 1 ≤ m + 1 + g.k ∧ g.xs.take g.i = dd (ps.take (m + 1 + g.k)) ∧ ∀ j, g.i ≤ j → g.xs[j]? = ps[j]?) (fun g => ps.length - g.k) (⟨1, m + 1, ps⟩) ⟨rfl, rfl, trivial⟩ (Ent.refl _ _) (⟨Nat.le_refl _, by simp only; omega, rfl, by simp only; omega, hd2.symm, fun _ _ => rfl⟩) (fun g F hok => ?_)
        obtain ⟨k, i, xs⟩ := g
        obtain ⟨q1, q2, q3, q4, q5, q6⟩ := hok
        simp only at q1 q2 q3 q4 q5 q6
        dsimp only
        refine HW.seq ?_
        refine HW.seq (HW.region [(0, .st), (1, .st), (2, .st), (3, .st)] rfl rfl ?_)
        refine Plan.move (v := .int _ _) rfl rfl rfl ?_
        refine Plan.move (v := .slice _ _ _) rfl rfl rfl ?_
        refine Plan.len rfl rfl slV rfl ?_
        refine Plan.cmp2 rfl rfl rfl rfl rfl (fun h32 => ?_) (fun h32 => ?_)
        · replace h32 := of_decide_eq_true h32
          have hlt2 : m + 1 + k < ps.length := by omega
          obtain ⟨k', rfl⟩ : ∃ k', k = k' + 1 := ⟨k - 1, by omega⟩
          have hx1 : xs[m + 1 + (k' + 1)] = ps[m + 1 + (k' + 1)] := by
            have := q6 (m + 1 + (k' + 1)) (by omega)
            rw [List.getElem?_eq_getElem (by omega), List.getElem?_eq_getElem (by omega)] at this
            injection this
          have hx2 : xs[m + 1 + k'] = ps[m + 1 + k'] := by
            have := q6 (m + 1 + k') (by omega)
            rw [List.getElem?_eq_getElem (by omega), List.getElem?_eq_getElem (by omega)] at this
            injection this
          have hd3 := dd_take (ps := ps) (m := m + 1 + k') (by omega)
          refine Plan.done ?_
          refine HW.cond_true rfl ?_
          refine HW.skip ?_
          refine HW.seq ?_
          refine HW.block ?_
          refine HW.seq (HW.region_any [] [(0, .st), (1, .st), (2, .st), (3, .st), (4, .st), (5, .st), (6, .st), (7, .st), (8, .st), (9, .st)] mix (by kernel_rfl) (fun _ _ _ _ _ h => h) (zeros rfl) ?_)
          refine Plan.move (v := .slice _ _ _) rfl rfl rfl ?_
          refine Plan.move (v := .int _ _) rfl rfl rfl ?_
          refine Plan.indexN (k' + 1) rfl rfl slV sizV rfl rfl rfl rfl (by omega) ?_
          refine Plan.loadAgg rfl rfl aggV sizV rfl (Sees.ownAt 0 rfl b rfl (m + 1 + (k' + 1)) (by omega) (by rw [add_add, ← Nat.add_mul])) rfl ?_
          refine Plan.move (v := .slice _ _ _) rfl rfl rfl ?_
          refine Plan.move (v := .int _ _) rfl rfl rfl ?_
          refine Plan.arithI rfl rfl rfl rfl rfl (by omega) ?_
          refine Plan.indexN (k') rfl rfl slV sizV rfl rfl rfl (by omega) (by omega) ?_
          refine Plan.loadAgg rfl rfl aggV sizV rfl (Sees.ownAt 0 rfl b rfl (m + 1 + k') (by omega) (by rw [add_add, ← Nat.add_mul])) rfl ?_
          refine Plan.neV xs[m + 1 + (k' + 1)] xs[m + 1 + k'] rfl rfl rfl rfl rfl (fun h44 => ?_) (fun h44 => ?_)
          · skip
            rw [if_neg (fun h => h44 (by rw [hx1, hx2]; exact h.symm))] at hd3
            refine Plan.done ?_
            refine HW.cond_true rfl ?_
            refine HW.seq (HW.region [(0, .st), (1, .st), (2, .st), (3, .st), (4, .st), (5, .st), (6, .st), (7, .ef)] rfl rfl ?_)
            refine Plan.move (v := .slice _ _ _) rfl rfl rfl ?_
            refine Plan.move (v := .int _ _) rfl rfl rfl ?_
            refine Plan.move (v := .slice _ _ _) rfl rfl rfl ?_
            refine Plan.move (v := .int _ _) rfl rfl rfl ?_
            refine Plan.indexN (k' + 1) rfl rfl slV sizV rfl rfl rfl rfl (by omega) ?_
            refine Plan.loadAgg rfl rfl aggV sizV rfl (Sees.ownAt 0 rfl b rfl (m + 1 + (k' + 1)) (by omega) (by rw [add_add, ← Nat.add_mul])) rfl ?_
            refine Plan.indexN (i) rfl rfl slV sizV rfl rfl rfl rfl (by omega) ?_
            refine Plan.storeOwn (enc := enc) (sz := 2) (xs[m + 1 + (k' + 1)]) (i) (0) rfl rfl hDn sizV enc2 enc1 rfl rfl rfl rfl rfl (by omega) ?_
            refine Plan.done ?_
            refine HW.region [(0, .st), (1, .st), (2, .st)] rfl rfl ?_
            refine Plan.move (v := .int _ _) rfl rfl rfl ?_
            refine Plan.arithI rfl rfl rfl rfl rfl (by omega) ?_
            refine Plan.assign (v := .int _ _) rfl rfl rfl ?_
            refine Plan.done ?_
            refine HW.region [(0, .st), (1, .st), (2, .st)] rfl rfl ?_
            refine Plan.move (v := .int _ _) rfl rfl rfl ?_
            refine Plan.arithI rfl rfl rfl rfl rfl (by omega) ?_
            refine Plan.assign (v := .int _ _) rfl rfl rfl ?_
            refine Plan.done ?_
            exact ⟨⟨k' + 1 + 1, i + 1, xs.set i xs[m + 1 + (k' + 1)]⟩, by simp only; omega, ⟨by simp only; omega, by simp only; omega, by simpa using q3, by simp only; omega, by
                    simp only
                    rw [List.take_add_one, List.take_set_of_le (Nat.le_refl _), q5, List.getElem?_set_self (by omega), hx1]
                    exact hd3.symm, fun j hj => by
                    simp only at hj ⊢
                    rw [List.getElem?_set_ne (by omega)]
                    exact q6 j (by omega)⟩, rfl, Ent.sub (.refl _), (by repeat (first | exact Agree.havoc _ _ _ | refine Agree.updN ?_ | refine Agree.upd rfl ?_ | refine Agree.updL rfl ?_ | refine Agree.havoc2 rfl ?_)), ⟨rfl, rfl, trivial⟩⟩
          · skip
            rw [if_pos (show ps[m + 1 + k'] = ps[m + 1 + k' + 1] by rw [hx1, hx2] at h44; exact h44.symm)] at hd3
            refine Plan.done ?_
            refine HW.cond_false rfl ?_
            refine HW.skip ?_
            refine HW.region [(0, .st), (1, .st), (2, .st)] rfl rfl ?_
            refine Plan.move (v := .int _ _) rfl rfl rfl ?_
            refine Plan.arithI rfl rfl rfl rfl rfl (by omega) ?_
            refine Plan.assign (v := .int _ _) rfl rfl rfl ?_
            refine Plan.done ?_
            exact ⟨⟨k' + 1 + 1, i, xs⟩, by simp only; omega, ⟨by simp only; omega, by simp only; omega, q3, by simp only; omega, q5.trans hd3.symm, q6⟩, rfl, Ent.sub (.refl _), (by repeat (first | exact Agree.havoc _ _ _ | refine Agree.updN ?_ | refine Agree.upd rfl ?_ | refine Agree.updL rfl ?_ | refine Agree.havoc2 rfl ?_)), ⟨rfl, rfl, trivial⟩⟩
        · replace h32 := of_decide_eq_false h32
          have hkk : m + 1 + k = ps.length := by omega
          rw [hkk, List.take_length] at q5
          have hil : (dd ps).length = i := by rw [← q5]; simp; omega
          refine Plan.done ?_
          refine HW.cond_false rfl ?_
          refine HW.exit ?_
          refine HW.seq (HW.region [(0, .st), (1, .st), (2, .st), (3, .ef)] rfl rfl ?_)
          refine Plan.move (v := .slice _ _ _) rfl rfl rfl ?_
          refine Plan.move (v := .int _ _) rfl rfl rfl ?_
          refine Plan.sliceLo (i) rfl rfl slV sizV rfl rfl rfl rfl (by omega) (by omega) ?_
          refine Plan.clearOwn (enc := enc) (sz := 2) (i) (0) rfl rfl hDn slV zerV rfl rfl enc2 rfl rfl rfl (by rw [q3]) (by omega) ?_
          refine Plan.done ?_
          refine HW.seq (HW.region [(0, .st), (1, .st), (2, .st), (3, .st)] rfl rfl ?_)
          refine Plan.move (v := .slice _ _ _) rfl rfl rfl ?_
          refine Plan.move (v := .int _ _) rfl rfl rfl ?_
          refine Plan.sliceHi (i) rfl rfl slV sizV rfl rfl rfl (by omega) ?_
          refine Plan.assign (v := .slice _ _ _) rfl rfl rfl ?_
          refine Plan.done ?_
          exact HW.ret ⟨rfl, _, [ownV (some b) c (xs.take i)], .tmp rfl .nil, .refl _, (by rw [hil]; rfl), by rw [q5]⟩
      · skip
        rw [if_neg (fun h => h25 h.symm)] at hd2
        refine Plan.done ?_
        refine HW.cond_false rfl ?_
        refine HW.skip ?_
        refine HW.region [(0, .st), (1, .st), (2, .st)] rfl rfl ?_
        refine Plan.move (v := .int _ _) rfl rfl rfl ?_
        refine Plan.arithI rfl rfl rfl rfl rfl (by omega) ?_
        refine Plan.assign (v := .int _ _) rfl rfl rfl ?_
        refine Plan.done ?_
        exact ⟨m + 2, by simp only; omega, ⟨by omega, by omega, by rw [hd2, hdk, List.take_add_one (i := m + 1), List.getElem?_eq_getElem hlt]; rfl⟩, rfl, Ent.sub (.refl _), (by repeat (first | exact Agree.havoc _ _ _ | refine Agree.updN ?_ | refine Agree.upd rfl ?_ | refine Agree.updL rfl ?_ | refine Agree.havoc2 rfl ?_)), ⟨rfl, trivial⟩⟩
    · replace h13 := of_decide_eq_false h13
      have hdd : dd ps = ps := by rw [List.take_of_length_le (by omega)] at hdk; exact hdk
      refine Plan.done ?_
      refine HW.cond_false rfl ?_
      refine HW.exit ?_
      refine HW.seq (HW.region [(0, .st), (1, .st)] rfl rfl ?_)
      refine Plan.move (v := .slice _ _ _) rfl rfl rfl ?_
      refine Plan.assign (v := .slice _ _ _) rfl rfl rfl ?_
      refine Plan.done ?_
      exact HW.ret ⟨rfl, _, [ownV (some b) c ps], .tmp rfl .nil, .refl _, (by rw [hdd]; rfl), by rw [hdd]⟩

end Go.Proofs.Ytjmklbkcpjmcaaa.V
