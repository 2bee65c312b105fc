/-
  Package tinplateref04: places, Class.
  Package tinplateref04: Lay.
-/
import Derived.Test.YtjmklbkcpjmcaaaU1
import Derived.Test.YtjmklbkcpjmcaaaBj
import Derived.Test.YtjmklbkcpjmcaaaBn
import Derived.Test.YtjmklbkcpjmcaaaBd
namespace Go.Proofs.Ytjmklbkcpjmcaaa.V
open Go Go.RowKit Go.Proofs.Ytjmklbkcpjmcaaa.H
set_option linter.unusedVariables false
set_option linter.unusedSimpArgs false

structure PcG where
  n : Nat
  o : Option Nat
  c : Nat

theorem places_ct (A : Option Addr) (p : List Pt) (x y : Int) (n c : Nat) (w : World) (hp : Rd enc 2 w A p) (hn : n = p.length) (hb : blankF p = true) (hx : 1 ≤ x ∧ x ≤ 100) (hy : 1 ≤ y ∧ y ≤ 100) :
    Ct P 55 #[.slice A n c, int x, int y] w [] (fun r L => ∃ o c', r = slv o (pls p x y).length c' ∧ L = [ownV o c' (pls p x y)]) := by
  subst hn
  obtain ⟨v1, v2, v3, v4⟩ := validF_spec (blankF_spec hb).1
  have h0 : 0 < p.length := by omega
  obtain ⟨s1, s2, s3⟩ := size_bd hb (w := x) (h := y) hx.2 hy.2
  obtain ⟨t1, t2, t3, t4, t5, t6⟩ := box_spec hb
  have hdX : nxF p x = (x - X2 p + X1 p + 1).toNat := rfl
  have hdY : nyF p y = (y - Y2 p + Y1 p + 1).toNat := rfl
  obtain ⟨a0, ea0, hl0⟩ := hp 0 h0
  have hg0 : p[0] = nth p 0 := (nth_get h0).symm
  refine Ct.of_body (rs := [.tmp 6]) (N := 88) (L := []) Try.func55 rfl rfl rfl (by kernel_rfl) rfl (Mem.refl w) ?_
  refine HW.seq (HW.region [(0, .st)] rfl rfl ?_)
  refine Plan.assign (v := .slice _ _ _) rfl rfl rfl ?_
  refine Plan.done ?_
  refine HW.seq (HW.region_any [8, 9] [(0, .st), (1, .st), (2, .st), (3, .st), (4, .so), (5, .so), (6, .al), (7, .al), (8, .ef), (9, .ef)] mix (by kernel_rfl) (fun _ _ _ _ _ h => h) (zeros rfl) ?_)
  refine Plan.move (v := .slice _ _ _) rfl rfl rfl ?_
  refine Plan.indexN (0) rfl rfl slV sizV rfl ea0 rfl rfl (h0) ?_
  refine Plan.loadAgg rfl rfl aggV sizV rfl (Sees.old hl0 (by simp)) rfl ?_
  refine Plan.move (v := .slice _ _ _) rfl rfl rfl ?_
  refine Plan.so (Plan.indexN (0) rfl rfl slV sizV rfl ea0 rfl rfl (h0) (Plan.done rfl)) ?_
  refine Plan.so (Plan.loadAgg rfl rfl aggV sizV rfl (Sees.old hl0 (by simp)) rfl (Plan.done rfl)) ?_
  refine Plan.alloc rfl zerV fun b7 => ?_
  refine Plan.alloc rfl zerV fun b8 => ?_
  refine Plan.storeA 1 rfl rfl (hDs (by decide)) sizV rfl rfl rfl rfl rfl rfl ?_
  refine Plan.storeA 0 rfl rfl (hDs (by decide)) sizV rfl rfl rfl rfl rfl rfl ?_
  refine Plan.done ?_
  refine HW.seq ?_
  refine HW.seq (HW.region [(0, .st)] rfl rfl ?_)
  refine Plan.assign (v := .int _ _) rfl rfl rfl ?_
  refine Plan.done ?_
  refine HW.block ?_
  refine HW.loopL (G := Nat) [9, 19, 20, 21, 22, 23, 24, 25, 26, 27, 28, 29, 30, 31, 32, 33, 34, 35, 36, 37, 38, 39, 40, 41, 42, 43, 44, 45, 46, 47, 48, 49, 50, 51, 52, 53, 54, 55, 56, 57, 58] (fun g => [(9, int ((g : Nat) : Int))]) (fun g => [Res.blk b8 #[int (mxT fX p g), int (mxT fY p g)] 52, Res.blk b7 #[int (mnT fX p g), int (mnT fY p g)] 52]) (fun g => 1 ≤ g ∧ g ≤ p.length) (fun g => p.length - g) (1) ⟨rfl, trivial⟩ (fun w' hm => (by
      have e1 := mnT_one fX p
      have e2 := mnT_one fY p
      have e3 := mxT_one fX p
      have e4 := mxT_one fY p
      rw [e1, e2, e3, e4]
      rw [hg0] at hm
      exact hm)) (⟨Nat.le_refl 1, by omega⟩) (fun g F hok => ?_)
  obtain ⟨g1, g2⟩ := hok
  refine HW.seq ?_
  refine HW.seq (HW.region [(0, .st), (1, .st), (2, .st), (3, .st)] rfl rfl ?_)
  refine Plan.move (v := .int _ _) rfl rfl rfl ?_
  refine Plan.move (v := .slice _ _ _) rfl rfl rfl ?_
  refine Plan.len rfl rfl slV rfl ?_
  refine Plan.cmp2 rfl rfl rfl rfl rfl (fun h22 => ?_) (fun h22 => ?_)
  · replace h22 := of_decide_eq_true h22
    have hlt : g < p.length := by omega
    obtain ⟨ad, ea, hl1⟩ := hp g hlt
    have hgg : p[g] = nth p g := (nth_get hlt).symm
    rw [hgg] at hl1
    refine Plan.done ?_
    refine HW.cond_true rfl ?_
    refine HW.skip ?_
    refine HW.seq ?_
    refine HW.block ?_
    refine HW.seq (HW.region_any [17] [(0, .st), (1, .st), (2, .st), (3, .st), (4, .st), (5, .st), (6, .st), (7, .st), (8, .st), (9, .st), (10, .st), (11, .st), (12, .st), (13, .st), (14, .st), (15, .st), (16, .st), (17, .ef)] mix (by kernel_rfl) (fun _ _ _ _ _ h => h) (zeros rfl) ?_)
    refine Plan.fieldAddr rfl rfl fldV0 rfl ?_
    refine Plan.load (v := .int _ _) rfl rfl aggI rfl (Sees.one 1 rfl rfl) ?_
    refine Plan.move (v := .slice _ _ _) rfl rfl rfl ?_
    refine Plan.move (v := .int _ _) rfl rfl rfl ?_
    refine Plan.indexN (g) rfl rfl slV sizV rfl ea rfl rfl (hlt) ?_
    refine Plan.fieldAddr rfl rfl fldV0 rfl ?_
    refine Plan.load (v := .int _ _) rfl rfl aggI rfl (Sees.nth (Sees.old hl1 (by simp)) 0 rfl) ?_
    refine Plan.min rfl rfl rfl rfl ?_
    refine Plan.fieldAddr rfl rfl fldV1 rfl ?_
    refine Plan.load (v := .int _ _) rfl rfl aggI rfl (Sees.one 1 rfl rfl) ?_
    refine Plan.move (v := .slice _ _ _) rfl rfl rfl ?_
    refine Plan.move (v := .int _ _) rfl rfl rfl ?_
    refine Plan.indexN (g) rfl rfl slV sizV rfl ea rfl rfl (hlt) ?_
    refine Plan.fieldAddr rfl rfl fldV1 rfl ?_
    refine Plan.load (v := .int _ _) rfl rfl aggI rfl (Sees.nth (Sees.old hl1 (by simp)) 1 rfl) ?_
    refine Plan.min rfl rfl rfl rfl ?_
    refine Plan.build rfl rfl rfl (bldV _ _) ?_
    refine Plan.storeA 1 rfl rfl (hDs (by decide)) sizV rfl rfl rfl rfl rfl rfl ?_
    refine Plan.done ?_
    refine HW.region_any [17] [(0, .st), (1, .st), (2, .st), (3, .st), (4, .st), (5, .st), (6, .st), (7, .st), (8, .st), (9, .st), (10, .st), (11, .st), (12, .st), (13, .st), (14, .st), (15, .st), (16, .st), (17, .ef)] mix (by kernel_rfl) (fun _ _ _ _ _ h => h) (zeros rfl) ?_
    refine Plan.fieldAddr rfl rfl fldV0 rfl ?_
    refine Plan.load (v := .int _ _) rfl rfl aggI rfl (Sees.one 0 rfl rfl) ?_
    refine Plan.move (v := .slice _ _ _) rfl rfl rfl ?_
    refine Plan.move (v := .int _ _) rfl rfl rfl ?_
    refine Plan.indexN (g) rfl rfl slV sizV rfl ea rfl rfl (hlt) ?_
    refine Plan.fieldAddr rfl rfl fldV0 rfl ?_
    refine Plan.load (v := .int _ _) rfl rfl aggI rfl (Sees.nth (Sees.old hl1 (by simp)) 0 rfl) ?_
    refine Plan.max rfl rfl rfl rfl ?_
    refine Plan.fieldAddr rfl rfl fldV1 rfl ?_
    refine Plan.load (v := .int _ _) rfl rfl aggI rfl (Sees.one 0 rfl rfl) ?_
    refine Plan.move (v := .slice _ _ _) rfl rfl rfl ?_
    refine Plan.move (v := .int _ _) rfl rfl rfl ?_
    refine Plan.indexN (g) rfl rfl slV sizV rfl ea rfl rfl (hlt) ?_
    refine Plan.fieldAddr rfl rfl fldV1 rfl ?_
    refine Plan.load (v := .int _ _) rfl rfl aggI rfl (Sees.nth (Sees.old hl1 (by simp)) 1 rfl) ?_
    refine Plan.max rfl rfl rfl rfl ?_
    refine Plan.build rfl rfl rfl (bldV _ _) ?_
    refine Plan.storeA 0 rfl rfl (hDs (by decide)) sizV rfl rfl rfl rfl rfl rfl ?_
    refine Plan.done ?_
    refine HW.region [(0, .st), (1, .st), (2, .st)] rfl rfl ?_
    refine Plan.move (v := .int _ _) rfl rfl rfl ?_
    refine Plan.arithI rfl rfl rfl rfl rfl (by omega) ?_
    refine Plan.assign (v := .int _ _) rfl rfl rfl ?_
    refine Plan.done ?_
    exact ⟨g + 1, by simp only; omega, ⟨by omega, hlt⟩, rfl, Ent.sub (.refl _), (by repeat (first | exact Agree.havoc _ _ _ | refine Agree.updN ?_ | refine Agree.upd rfl ?_ | refine Agree.updL rfl ?_ | refine Agree.havoc2 rfl ?_)), ⟨int_eq (by push_cast; omega), trivial⟩⟩
  · replace h22 := of_decide_eq_false h22
    have hge : g = p.length := by omega
    subst hge
    refine Plan.done ?_
    refine HW.cond_false rfl ?_
    refine HW.exit ?_
    refine HW.conv [ownV none 0 [], Res.blk b8 #[int (X2 p), int (Y2 p)] 52, Res.blk b7 #[int (X1 p), int (Y1 p)] 52] (fun w' hm => hm.addNil) ?_
    refine HW.seq (HW.region [(0, .st)] rfl rfl ?_)
    refine Plan.assign (v := .slice _ _ _) rfl rfl rfl ?_
    refine Plan.done ?_
    refine HW.seq ?_
    refine HW.seq (HW.region [(0, .st), (1, .st), (2, .st), (3, .st)] rfl rfl ?_)
    refine Plan.fieldAddr rfl rfl fldV1 rfl ?_
    refine Plan.load (v := .int _ _) rfl rfl aggI rfl (Sees.one 2 rfl rfl) ?_
    refine Plan.neg rfl rfl rfl (by omega) ?_
    refine Plan.assign (v := .int _ _) rfl rfl rfl ?_
    refine Plan.done ?_
    refine HW.block ?_
    refine HW.loopL (G := PcG) [10, 11, 12, 62, 63, 64, 65, 66, 67, 68, 69, 70, 71, 72, 73, 74, 75, 76, 77, 78, 79, 80, 81, 82, 83, 84, 85, 86] (fun g => [(10, slv g.o (plN p (nxF p x) (g.n * nxF p x)).length g.c), (11, int ((g.n : Int) - Y1 p))]) (fun g => [ownV g.o g.c (plN p (nxF p x) (g.n * nxF p x)), Res.blk b8 #[int (X2 p), int (Y2 p)] 52, Res.blk b7 #[int (X1 p), int (Y1 p)] 52]) (fun g => g.n ≤ nyF p y) (fun g => nyF p y - g.n) (⟨0, none, 0⟩) ⟨(by have e : 0 * nxF p x = 0 := Nat.zero_mul _; show slv none 0 0 = slv none (plN p (nxF p x) (0 * nxF p x)).length 0; rw [e]; rfl), int_eq (by simp only; omega), trivial⟩ (fun w' hm => (by dsimp only; rw [Nat.zero_mul]; exact hm)) (Nat.zero_le _) (fun g F hok => ?_)
    obtain ⟨j, o, c1⟩ := g
    simp only at hok
    dsimp only
    refine HW.seq ?_
    refine HW.seq (HW.region [(0, .st), (1, .st), (2, .st), (3, .st), (4, .st), (5, .st)] rfl rfl ?_)
    refine Plan.move (v := .int _ _) rfl rfl rfl ?_
    refine Plan.move (v := .int _ _) rfl rfl rfl ?_
    refine Plan.fieldAddr rfl rfl fldV1 rfl ?_
    refine Plan.load (v := .int _ _) rfl rfl aggI rfl (Sees.one 1 rfl rfl) ?_
    refine Plan.arithI rfl rfl rfl rfl rfl (by omega) ?_
    refine Plan.cmp2 rfl rfl rfl rfl rfl (fun h67 => ?_) (fun h67 => ?_)
    · replace h67 := of_decide_eq_true h67
      have hj : j < nyF p y := by omega
      have hmul := Nat.mul_le_mul_right (nxF p x) (show j + 1 ≤ nyF p y from hj)
      rw [Nat.succ_mul] at hmul
      refine Plan.done ?_
      refine HW.cond_true rfl ?_
      refine HW.skip ?_
      refine HW.seq ?_
      refine HW.block ?_
      refine HW.seq (HW.region [(0, .st), (1, .st), (2, .st), (3, .st)] rfl rfl ?_)
      refine Plan.fieldAddr rfl rfl fldV0 rfl ?_
      refine Plan.load (v := .int _ _) rfl rfl aggI rfl (Sees.one 2 rfl rfl) ?_
      refine Plan.neg rfl rfl rfl (by omega) ?_
      refine Plan.assign (v := .int _ _) rfl rfl rfl ?_
      refine Plan.done ?_
      refine HW.block ?_
      refine HW.loopL (G := PcG) [10, 12, 73, 74, 75, 76, 77, 78, 79, 80, 81, 82, 83, 84, 85, 86] (fun g => [(10, slv g.o (plN p (nxF p x) (j * nxF p x + g.n)).length g.c), (12, int ((g.n : Int) - X1 p))]) (fun g => [ownV g.o g.c (plN p (nxF p x) (j * nxF p x + g.n)), Res.blk b8 #[int (X2 p), int (Y2 p)] 52, Res.blk b7 #[int (X1 p), int (Y1 p)] 52]) (fun g => g.n ≤ nxF p x) (fun g => nxF p x - g.n) (⟨0, o, c1⟩) ⟨rfl, int_eq (by simp only; omega), trivial⟩ (fun w' hm => hm) (Nat.zero_le _) (fun g F hok => ?_)
      obtain ⟨i, o2, c2⟩ := g
      rename_i hok1
      simp only at hok
      dsimp only
      refine HW.seq ?_
      refine HW.seq (HW.region [(0, .st), (1, .st), (2, .st), (3, .st), (4, .st), (5, .st)] rfl rfl ?_)
      refine Plan.move (v := .int _ _) rfl rfl rfl ?_
      refine Plan.move (v := .int _ _) rfl rfl rfl ?_
      refine Plan.fieldAddr rfl rfl fldV0 rfl ?_
      refine Plan.load (v := .int _ _) rfl rfl aggI rfl (Sees.one 1 rfl rfl) ?_
      refine Plan.arithI rfl rfl rfl rfl rfl (by omega) ?_
      refine Plan.cmp2 rfl rfl rfl rfl rfl (fun h78 => ?_) (fun h78 => ?_)
      · replace h78 := of_decide_eq_true h78
        have hi : i < nxF p x := by omega
        have he := plA_at p (j := j) hi
        have hap := plN_succ p (nxF p x) (j * nxF p x + i)
        rw [he] at hap
        have hl := plN_len p (nxF p x) (j * nxF p x + i)
        refine Plan.done ?_
        refine HW.cond_true rfl ?_
        refine HW.skip ?_
        refine HW.seq ?_
        refine HW.block ?_
        refine HW.region [(0, .st), (1, .st), (2, .st), (3, .st), (4, .ef), (5, .ef), (6, .st)] rfl rfl ?_
        refine Plan.move (v := .slice _ _ _) rfl rfl rfl ?_
        refine Plan.move (v := .int _ _) rfl rfl rfl ?_
        refine Plan.move (v := .int _ _) rfl rfl rfl ?_
        refine Plan.build rfl rfl rfl (bldV _ _) ?_
        refine Plan.buildOwn (xs := [((i : Int) - X1 p, (j : Int) - Y1 p)]) (enc := enc) (sz := 2) rfl rfl rfl (bs1 _ _) rfl rfl (by simp) rfl fun b85 => ?_
        refine Plan.append (enc := enc) (sz := 2) (ys := [((i : Int) - X1 p, (j : Int) - Y1 p)]) (1) rfl rfl hDn slV infV rfl (by decide) enc2 enc1 rfl rfl rfl rfl rfl (Sees.ownAll 0 rfl b85 rfl) (by simp; omega) (by simp; omega) fun o86 c86 => ?_
        refine Plan.assign (v := .slice _ _ _) rfl rfl rfl ?_
        refine Plan.done ?_
        refine HW.region [(0, .st), (1, .st), (2, .st)] rfl rfl ?_
        refine Plan.move (v := .int _ _) rfl rfl rfl ?_
        refine Plan.arithI rfl rfl rfl rfl rfl (by omega) ?_
        refine Plan.assign (v := .int _ _) rfl rfl rfl ?_
        refine Plan.done ?_
        exact ⟨⟨i + 1, o86, c86⟩, by simp only; omega, hi, rfl, (fun w' hm => by
            show Mem _ _ (ownV o86 c86 (plN p (nxF p x) (j * nxF p x + i + 1)) :: _) w'
            rw [hap]
            exact hm.sub (.cons _ (.refl _))), (by repeat (first | exact Agree.havoc _ _ _ | refine Agree.updN ?_ | refine Agree.upd rfl ?_ | refine Agree.updL rfl ?_ | refine Agree.havoc2 rfl ?_)), ⟨slv_eq (by show _ = (plN p (nxF p x) (j * nxF p x + i + 1)).length; rw [hap]; simp), int_eq (by dsimp only; push_cast; omega), trivial⟩⟩
      · replace h78 := of_decide_eq_false h78
        have hi2 : i = nxF p x := by omega
        subst hi2
        have hs : j * nxF p x + nxF p x = (j + 1) * nxF p x := (Nat.succ_mul _ _).symm
        rw [hs]
        refine Plan.done ?_
        refine HW.cond_false rfl ?_
        refine HW.exit ?_
        refine HW.region [(0, .st), (1, .st), (2, .st)] rfl rfl ?_
        refine Plan.move (v := .int _ _) rfl rfl rfl ?_
        refine Plan.arithI rfl rfl rfl rfl rfl (by omega) ?_
        refine Plan.assign (v := .int _ _) rfl rfl rfl ?_
        refine Plan.done ?_
        exact ⟨⟨j + 1, o2, c2⟩, by simp only; omega, hj, rfl, Ent.sub (.refl _), (by repeat (first | exact Agree.havoc _ _ _ | refine Agree.updN ?_ | refine Agree.upd rfl ?_ | refine Agree.updL rfl ?_ | refine Agree.havoc2 rfl ?_)), ⟨rfl, int_eq (by dsimp only; push_cast; omega), trivial⟩⟩
    · replace h67 := of_decide_eq_false h67
      have hj2 : j = nyF p y := by omega
      subst hj2
      refine Plan.done ?_
      refine HW.cond_false rfl ?_
      refine HW.exit ?_
      refine HW.seq (HW.region [(0, .st), (1, .st)] rfl rfl ?_)
      refine Plan.move (v := .slice _ _ _) rfl rfl rfl ?_
      refine Plan.assign (v := .slice _ _ _) rfl rfl rfl ?_
      refine Plan.done ?_
      exact HW.ret ⟨rfl, _, [ownV o c1 (pls p x y)], .tmp rfl .nil, .cons_cons _ (List.nil_sublist _), o, c1, rfl, rfl⟩

theorem Class_ct (A : Option Addr) (p : List Pt) (a b d x y : Int) (o : Pt) (n c : Nat) (w : World) (hp : Rd enc 2 w A p) (hn : n = p.length) (hb : blankF p = true) (hg : goodG (a, b, d) = true) (hx : 1 ≤ x ∧ x ≤ 100) (hy : 1 ≤ y ∧ y ≤ 100) :
    Ct P 37 #[.slice A n c, gdv a b d, int x, int y, vc o] w [] (fun r L => ∃ o' c', r = slv o' (clsF (a, b, d) (pls p x y) o).length c' ∧ L = [ownV o' c' (clsF (a, b, d) (pls p x y) o)]) := by
  subst hn
  obtain ⟨s1, s2, s3⟩ := size_bd hb (w := x) (h := y) hx.2 hy.2
  have hpl : (pls p x y).length = nyF p y * nxF p x := plN_len _ _ _
  refine Ct.of_body (rs := [.tmp 10]) (N := 40) (L := []) Try.func37 rfl rfl rfl (by kernel_rfl) rfl (Mem.refl w) ?_
  refine HW.seq (HW.region [(0, .ef), (1, .ef), (2, .st)] rfl rfl ?_)
  refine Plan.boxA rfl rfl rfl fun b6 => ?_
  refine Plan.boxA rfl rfl rfl fun b9 => ?_
  refine Plan.assign (v := .slice _ _ _) rfl rfl rfl ?_
  refine Plan.done ?_
  refine HW.seq (HW.region [(0, .st)] rfl rfl ?_)
  refine Plan.assign (v := .slice _ _ _) rfl rfl rfl ?_
  refine Plan.done ?_
  refine HW.seq (HW.region [(0, .st), (1, .st), (2, .st), (3, .ef), (4, .st)] rfl rfl ?_)
  refine Plan.move (v := .slice _ _ _) rfl rfl rfl ?_
  refine Plan.move (v := .int _ _) rfl rfl rfl ?_
  refine Plan.move (v := .int _ _) rfl rfl rfl ?_
  refine Plan.callF [] 0 rfl rfl rfl (.inl rfl) (by simp) (fun w hm => places_ct A p x y _ c w (hp.mem hm) rfl hb hx hy) ?_
  rintro v Ln ⟨o1, c1, rfl, rfl⟩
  refine Plan.assign (v := .slice _ _ _) rfl rfl rfl ?_
  refine Plan.done ?_
  refine HW.seq ?_
  refine HW.pure (p := 0 < (pls p x y).length → ∃ bb, o1 = some bb) (fun w' hm hpos => Res.own_some (hm.res (ownV o1 c1 (pls p x y)) (by simp)) hpos) fun hob => ?_
  refine HW.addNil enc 2 52 ?_
  refine HW.seq (HW.region [(0, .st)] rfl rfl ?_)
  refine Plan.assign (v := .int _ _) rfl rfl rfl ?_
  refine Plan.done ?_
  refine HW.block ?_
  refine HW.loopL (G := PcG) [11, 13, 18, 19, 20, 21, 22, 23, 24, 25, 26, 27, 28, 29, 30, 31, 32, 33, 34, 35, 36, 37, 38] (fun g => [(11, slv g.o (clsF (a, b, d) ((pls p x y).take g.n) o).length g.c), (13, int ((g.n : Nat) : Int))]) (fun g => [ownV g.o g.c (clsF (a, b, d) ((pls p x y).take g.n) o), ownV o1 c1 (pls p x y), Res.blk b9 #[int o.1, int o.2] 52, Res.blk b6 #[int a, int b, int d] 26]) (fun g => g.n ≤ (pls p x y).length) (fun g => (pls p x y).length - g.n) (⟨0, none, 0⟩) ⟨rfl, rfl, trivial⟩ (fun w' hm => hm) (Nat.zero_le _) (fun g F hok => ?_)
  obtain ⟨k, o2, c2⟩ := g
  simp only at hok
  dsimp only
  refine HW.seq ?_
  refine HW.seq (HW.region [(0, .st), (1, .st), (2, .st), (3, .st)] rfl rfl ?_)
  refine Plan.move (v := .int _ _) rfl rfl rfl ?_
  refine Plan.move (v := .slice _ _ _) rfl rfl rfl ?_
  refine Plan.len rfl rfl slV rfl ?_
  refine Plan.cmp2 rfl rfl rfl rfl rfl (fun h21 => ?_) (fun h21 => ?_)
  · replace h21 := of_decide_eq_true h21
    have hlt : k < (pls p x y).length := by omega
    obtain ⟨bb, rfl⟩ := hob (by omega)
    have hbd := pls_bd hb hx.2 hy.2 (List.getElem_mem hlt)
    have hlen : (clsF (a, b, d) ((pls p x y).take k) o).length ≤ k := Nat.le_trans (List.length_filter_le _ _) (by simp; omega)
    have htk : clsF (a, b, d) ((pls p x y).take (k + 1)) o = clsF (a, b, d) ((pls p x y).take k) o ++ if offF (a, b, d) (pls p x y)[k] = o then [(pls p x y)[k]] else [] := by
      unfold clsF
      rw [List.take_add_one, List.getElem?_eq_getElem hlt, List.filter_append]
      congr 1
      simp only [Option.toList_some, List.filter_cons, List.filter_nil]
      by_cases h : offF (a, b, d) (pls p x y)[k] = o <;> simp [h]
    refine Plan.done ?_
    refine HW.cond_true rfl ?_
    refine HW.skip ?_
    refine HW.seq ?_
    refine HW.block ?_
    refine HW.seq (HW.region_any [] [(0, .st), (1, .st), (2, .st), (3, .st), (4, .st), (6, .st), (5, .ef), (7, .st)] mix (by kernel_rfl) (fun _ _ _ _ _ h => h) (zeros rfl) ?_)
    refine Plan.loadAll 3 rfl rfl aggGrid sizGrid rfl rfl rfl ?_
    refine Plan.move (v := .slice _ _ _) rfl rfl rfl ?_
    refine Plan.move (v := .int _ _) rfl rfl rfl ?_
    refine Plan.indexN (k) rfl rfl slV sizV rfl rfl rfl rfl (hlt) ?_
    refine Plan.loadAgg rfl rfl aggV sizV rfl (Sees.own 1 enc2 rfl bb rfl k hlt) rfl ?_
    refine Plan.loadAll 2 rfl rfl aggV sizV rfl rfl rfl ?_
    refine Plan.callF [] 0 rfl rfl rfl (.inl rfl) (by simp) (fun w hm => OffsetR_ct a b d _ _ w hg ⟨by have := hbd.1; unfold Bd at this; omega, by have := hbd.1; unfold Bd at this; omega⟩ ⟨by have := hbd.2; unfold Bd at this; omega, by have := hbd.2; unfold Bd at this; omega⟩) ?_
    rintro v Ln ⟨rfl, rfl⟩
    refine Plan.eqV (offF (a, b, d) (pls p x y)[k]) o rfl rfl rfl rfl rfl (fun h31 => ?_) (fun h31 => ?_)
    · skip
      rw [if_pos h31] at htk
      refine Plan.done ?_
      refine HW.cond_true rfl ?_
      refine HW.region [(0, .st), (1, .st), (2, .st), (3, .st), (4, .st), (5, .ef), (6, .ef), (7, .st)] rfl rfl ?_
      refine Plan.move (v := .slice _ _ _) rfl rfl rfl ?_
      refine Plan.move (v := .slice _ _ _) rfl rfl rfl ?_
      refine Plan.move (v := .int _ _) rfl rfl rfl ?_
      refine Plan.indexN (k) rfl rfl slV sizV rfl rfl rfl rfl (hlt) ?_
      refine Plan.loadAgg rfl rfl aggV sizV rfl (Sees.own 1 enc2 rfl bb rfl k hlt) rfl ?_
      refine Plan.buildOwn (xs := [(pls p x y)[k]]) (enc := enc) (sz := 2) rfl rfl rfl (bs1 _ _) rfl rfl (by simp) rfl fun b37 => ?_
      refine Plan.append (enc := enc) (sz := 2) (ys := [(pls p x y)[k]]) (1) rfl rfl hDn slV infV rfl (by decide) enc2 enc1 rfl rfl rfl rfl rfl (Sees.ownAll 0 rfl b37 rfl) (by simp; omega) (by simp; omega) fun o38 c38 => ?_
      refine Plan.assign (v := .slice _ _ _) rfl rfl rfl ?_
      refine Plan.done ?_
      refine HW.region [(0, .st), (1, .st), (2, .st)] rfl rfl ?_
      refine Plan.move (v := .int _ _) rfl rfl rfl ?_
      refine Plan.arithI rfl rfl rfl rfl rfl (by omega) ?_
      refine Plan.assign (v := .int _ _) rfl rfl rfl ?_
      refine Plan.done ?_
      exact ⟨⟨k + 1, o38, c38⟩, by simp only; omega, hlt, rfl, (fun w' hm => by
          show Mem _ _ (ownV o38 c38 (clsF (a, b, d) ((pls p x y).take (k + 1)) o) :: _) w'
          rw [htk]
          exact hm.sub (.cons _ (.refl _))), (by repeat (first | exact Agree.havoc _ _ _ | refine Agree.updN ?_ | refine Agree.upd rfl ?_ | refine Agree.updL rfl ?_ | refine Agree.havoc2 rfl ?_)), ⟨slv_eq (by show _ = (clsF (a, b, d) ((pls p x y).take (k + 1)) o).length; rw [htk]; simp), int_eq (by dsimp only; push_cast; omega), trivial⟩⟩
    · skip
      rw [if_neg (by simpa using h31), List.append_nil] at htk
      refine Plan.done ?_
      refine HW.cond_false rfl ?_
      refine HW.skip ?_
      refine HW.region [(0, .st), (1, .st), (2, .st)] rfl rfl ?_
      refine Plan.move (v := .int _ _) rfl rfl rfl ?_
      refine Plan.arithI rfl rfl rfl rfl rfl (by omega) ?_
      refine Plan.assign (v := .int _ _) rfl rfl rfl ?_
      refine Plan.done ?_
      exact ⟨⟨k + 1, o2, c2⟩, by simp only; omega, hlt, rfl, (fun w' hm => by
          show Mem _ _ (ownV o2 c2 (clsF (a, b, d) ((pls p x y).take (k + 1)) o) :: _) w'
          rw [htk]
          exact hm), (by repeat (first | exact Agree.havoc _ _ _ | refine Agree.updN ?_ | refine Agree.upd rfl ?_ | refine Agree.updL rfl ?_ | refine Agree.havoc2 rfl ?_)), ⟨slv_eq (by show _ = (clsF (a, b, d) ((pls p x y).take (k + 1)) o).length; rw [htk]), int_eq (by dsimp only; push_cast; omega), trivial⟩⟩
  · replace h21 := of_decide_eq_false h21
    have hge : (pls p x y).take k = pls p x y := List.take_of_length_le (by omega)
    rw [hge]
    refine Plan.done ?_
    refine HW.cond_false rfl ?_
    refine HW.exit ?_
    refine HW.seq (HW.region [(0, .st), (1, .st)] rfl rfl ?_)
    refine Plan.move (v := .slice _ _ _) rfl rfl rfl ?_
    refine Plan.assign (v := .slice _ _ _) rfl rfl rfl ?_
    refine Plan.done ?_
    exact HW.ret ⟨rfl, _, [ownV o2 c2 (clsF (a, b, d) (pls p x y) o)], .tmp rfl .nil, .cons_cons _ (List.nil_sublist _), o2, c2, rfl, rfl⟩

end Go.Proofs.Ytjmklbkcpjmcaaa.V

namespace Go.Proofs.Ytjmklbkcpjmcaaa.V
open Go Go.RowKit Go.Proofs.Ytjmklbkcpjmcaaa.H Go.Proofs.Ytjmklbkcpjmcaaa.LL
set_option linter.unusedVariables false
set_option linter.unusedSimpArgs false

theorem Sees.ownX {J : Jd} {L : List Res} {α : Type} {en : α → List Value} {sz : Nat} {e : TypeId} {o : Option Nat} {c : Nat} {xs : List α} (j : Nat) (hk : ∀ x, (en x).length = sz) (hj : L[j]? = some (Res.own en sz e o c xs)) (b : Nat) (hb : o = some b) (m : Nat) (hm : m < xs.length) {x : α} (hx : xs[m] = x) : Sees J L ((⟨b, 0, none⟩ : Addr).add (m * sz)) (en x) := by
  subst hx
  exact Sees.own j hk hj b hb m hm

theorem OffsetV_ct (a b d : Int) (v : Pt) (w : World) (hg : goodG (a, b, d) = true) (h : Bd 100 v.1 ∧ Bd 100 v.2) : Ct P 38 #[gdv a b d, vc v] w [] (fun r L => r = vc (offF (a, b, d) v) ∧ L = []) :=
  OffsetR_ct a b d v.1 v.2 w hg (h.1.mono (by omega)) (h.2.mono (by omega))
theorem offsetV_ct (a b d : Int) (v : Pt) (w : World) (hg : goodG (a, b, d) = true) (h : Bd 100 v.1 ∧ Bd 100 v.2) : Ct P 56 #[gdv a b d, vc v] w [] (fun r L => r = vc (offF (a, b, d) v) ∧ L = []) :=
  offset_ct a b d v.1 v.2 w hg (h.1.mono (by omega)) (h.2.mono (by omega))

/-- how many vectors lie in each class -/
def cntL (g : Gd) (l : List Pt) (N : Nat) : List Int := (List.range N).map fun c => ((cntF g l c : Nat) : Int)
theorem cntL_len (g : Gd) (l : List Pt) (N : Nat) : (cntL g l N).length = N := by simp [cntL]
theorem cntL_get (g : Gd) (l : List Pt) {N c : Nat} (h : c < (cntL g l N).length) : (cntL g l N)[c] = ((cntF g l c : Nat) : Int) := by simp [cntL]
theorem cntL_nil (g : Gd) (N : Nat) : cntL g [] N = List.replicate N 0 := by
  refine List.ext_getElem (by simp [cntL]) fun i h1 h2 => ?_
  rw [cntL_get, List.getElem_replicate]
  rfl
theorem cntL_push {a b d : Int} (hg : goodG (a, b, d) = true) (l : List Pt) (v : Pt) (N : Nat) : (cntL (a, b, d) l N).set (idxF (a, b, d) v) ((cntF (a, b, d) l (idxF (a, b, d) v) : Nat) + 1 : Int) = cntL (a, b, d) (l ++ [v]) N := by
  refine List.ext_getElem (by simp [cntL]) fun i h1 h2 => ?_
  rw [List.getElem_set, cntL_get, cntL_get, cnt_push hg]
  split
  · next e => subst e; push_cast; rfl
  · rfl
theorem idx_cast {a b d : Int} (hg : goodG (a, b, d) = true) (v : Pt) : (offF (a, b, d) v).1 * d + (offF (a, b, d) v).2 = ((idxF (a, b, d) v : Nat) : Int) := by
  obtain ⟨a1, a2, d1, d2, b1, b2⟩ := good_spec hg
  obtain ⟨o1, o2, o3, o4⟩ := off_bd hg v
  have h2 : 0 ≤ (offF (a, b, d) v).1 * d := Int.mul_nonneg o1 (by omega)
  unfold idxF
  simp only
  omega
theorem cnt_le (g : Gd) (l : List Pt) (c : Nat) : cntF g l c ≤ l.length := List.length_filter_le _ _
theorem take_push {α : Type} {l : List α} {k : Nat} (h : k < l.length) : l.take (k + 1) = l.take k ++ [l[k]] := by
  rw [List.take_add_one, List.getElem?_eq_getElem h]
  rfl

theorem LayR_no (A : Option Addr) (p : List Pt) (n c : Nat) (a b d x y : Int) (w : World) (hp : Rd enc 2 w A p) (hn : n = p.length) (hlen : p.length ≤ 1000000) (hb : (blankF p && goodG (a, b, d)) = false) :
    Ct P 26 #[.slice A n c, gdv a b d, int x, int y] w [] (fun r L => ∃ o c', r = .tuple #[slv o (LayF p (a, b, d) x y).1.length c', int (LayF p (a, b, d) x y).2] ∧ L = [ownV o c' (LayF p (a, b, d) x y).1]) := by
  subst hn
  have hAF : AdmissibleF p (a, b, d) = (false, 2) := by rw [AdmissibleF, if_neg (by rw [hb]; decide)]
  have hF : LayF p (a, b, d) x y = ([], 2) := by rw [LayF, if_neg (by rw [LayB, hb, Bool.false_and, Bool.false_and]; decide)]
  refine Ct.of_body (rs := [.tmp 8, .tmp 9]) (N := 110) (L := []) Try.func26 rfl rfl rfl (by kernel_rfl) rfl (Mem.refl w) ?_
  refine HW.seq (HW.region [(0, .ef), (1, .st), (2, .st)] rfl rfl ?_)
  refine Plan.boxA rfl rfl rfl fun b5 => ?_
  refine Plan.assign (v := .slice _ _ _) rfl rfl rfl ?_
  refine Plan.assign (v := .int _ _) rfl rfl rfl ?_
  refine Plan.done ?_
  refine HW.seq (HW.region [(0, .st), (1, .st), (2, .ef), (3, .st), (4, .st), (5, .st), (6, .st), (7, .st)] rfl rfl ?_)
  refine Plan.move (v := .slice _ _ _) rfl rfl rfl ?_
  refine Plan.loadAll 0 rfl rfl aggGrid sizGrid rfl rfl rfl ?_
  refine Plan.callF [] 0 rfl rfl rfl (.inl rfl) (by simp) (fun w hm => (by have h5 := AdmissibleR_ct A p p.length c a b d w (hp.mem hm) rfl (by omega); rw [hAF] at h5; exact h5)) ?_
  rintro v Ln ⟨rfl, rfl⟩
  refine Plan.move (v := .tuple _) rfl rfl rfl ?_
  refine Plan.extract (v := .bool _) rfl rfl rfl rfl ?_
  refine Plan.extract (v := .int _ _) rfl rfl rfl rfl ?_
  refine Plan.assign (v := .bool _) rfl rfl rfl ?_
  refine Plan.assign (v := .int _ _) rfl rfl rfl ?_
  refine Plan.done ?_
  refine HW.seq ?_
  refine HW.seq (HW.region [(0, .st), (1, .st)] rfl rfl ?_)
  refine Plan.move (v := .int _ _) rfl rfl rfl ?_
  refine Plan.cmp2 rfl rfl rfl rfl rfl (fun h25 => ?_) (fun h25 => ?_)
  · replace h25 := ne_of_t h25
    refine Plan.done ?_
    refine HW.cond_true rfl ?_
    refine HW.seq (HW.region [(0, .st), (1, .st), (2, .st)] rfl rfl ?_)
    refine Plan.move (v := .int _ _) rfl rfl rfl ?_
    refine Plan.assign (v := .slice _ _ _) rfl rfl rfl ?_
    refine Plan.assign (v := .int _ _) rfl rfl rfl ?_
    refine Plan.done ?_
    refine HW.addNil enc 2 52 ?_
    exact HW.ret ⟨rfl, _, [ownV none 0 []], .tmp rfl (.tmp rfl .nil), .cons_cons _ (List.nil_sublist _), none, 0, (by rw [hF]; rfl), by rw [hF]⟩
  · replace h25 := eq_of_f h25
    exact absurd h25 (by decide)

theorem LayR_bad (A : Option Addr) (p : List Pt) (n c : Nat) (a b d x y : Int) (w : World) (hp : Rd enc 2 w A p) (hn : n = p.length) (hlen : p.length ≤ 1000000) (hb : blankF p = true) (hg : goodG (a, b, d) = true) (hL : LayB p (a, b, d) x y = false) :
    Ct P 26 #[.slice A n c, gdv a b d, int x, int y] w [] (fun r L => ∃ o c', r = .tuple #[slv o (LayF p (a, b, d) x y).1.length c', int (LayF p (a, b, d) x y).2] ∧ L = [ownV o c' (LayF p (a, b, d) x y).1]) := by
  subst hn
  have hAF : AdmissibleF p (a, b, d) = (admB p (a, b, d), 0) := by rw [AdmissibleF, if_pos (by rw [hb, hg]; rfl)]
  have hF : LayF p (a, b, d) x y = ([], 2) := by rw [LayF, if_neg (by rw [hL]; decide)]
  refine Ct.of_body (rs := [.tmp 8, .tmp 9]) (N := 110) (L := []) Try.func26 rfl rfl rfl (by kernel_rfl) rfl (Mem.refl w) ?_
  refine HW.seq (HW.region [(0, .ef), (1, .st), (2, .st)] rfl rfl ?_)
  refine Plan.boxA rfl rfl rfl fun b5 => ?_
  refine Plan.assign (v := .slice _ _ _) rfl rfl rfl ?_
  refine Plan.assign (v := .int _ _) rfl rfl rfl ?_
  refine Plan.done ?_
  refine HW.seq (HW.region [(0, .st), (1, .st), (2, .ef), (3, .st), (4, .st), (5, .st), (6, .st), (7, .st)] rfl rfl ?_)
  refine Plan.move (v := .slice _ _ _) rfl rfl rfl ?_
  refine Plan.loadAll 0 rfl rfl aggGrid sizGrid rfl rfl rfl ?_
  refine Plan.callF [] 0 rfl rfl rfl (.inl rfl) (by simp) (fun w hm => (by have h5 := AdmissibleR_ct A p p.length c a b d w (hp.mem hm) rfl (by omega); rw [hAF] at h5; exact h5)) ?_
  rintro v Ln ⟨rfl, rfl⟩
  refine Plan.move (v := .tuple _) rfl rfl rfl ?_
  refine Plan.extract (v := .bool _) rfl rfl rfl rfl ?_
  refine Plan.extract (v := .int _ _) rfl rfl rfl rfl ?_
  refine Plan.assign (v := .bool _) rfl rfl rfl ?_
  refine Plan.assign (v := .int _ _) rfl rfl rfl ?_
  refine Plan.done ?_
  refine HW.seq ?_
  refine HW.seq (HW.region [(0, .st), (1, .st)] rfl rfl ?_)
  refine Plan.move (v := .int _ _) rfl rfl rfl ?_
  refine Plan.cmp2 rfl rfl rfl rfl rfl (fun h25 => ?_) (fun h25 => ?_)
  · replace h25 := ne_of_t h25
    exact absurd rfl h25
  · replace h25 := eq_of_f h25
    refine Plan.done ?_
    refine HW.cond_false rfl ?_
    refine HW.skip ?_
    refine HW.seq ?_
    refine HW.seq (HW.region [(0, .st), (1, .st), (2, .st), (3, .st), (4, .st), (5, .st), (6, .st), (7, .st), (8, .st), (9, .st), (10, .st), (11, .st), (12, .st), (13, .st), (14, .st), (15, .st), (16, .st), (17, .st)] rfl rfl ?_)
    refine Plan.move (v := .int _ _) rfl rfl rfl ?_
    refine Plan.cmp2 rfl rfl rfl rfl rfl (fun h28 => ?_) (fun h28 => ?_)
    · replace h28 := of_decide_eq_true h28
      refine Plan.move (v := .bool _) rfl rfl rfl ?_
      refine Plan.no rfl rfl ?_
      refine Plan.no rfl rfl ?_
      refine Plan.pick (v := .bool _) rfl rfl rfl rfl ?_
      refine Plan.move (v := .bool _) rfl rfl rfl ?_
      refine Plan.no rfl rfl ?_
      refine Plan.no rfl rfl ?_
      refine Plan.pick (v := .bool _) rfl rfl rfl rfl ?_
      refine Plan.move (v := .bool _) rfl rfl rfl ?_
      refine Plan.no rfl rfl ?_
      refine Plan.no rfl rfl ?_
      refine Plan.pick (v := .bool _) rfl rfl rfl rfl ?_
      refine Plan.move (v := .bool _) rfl rfl rfl ?_
      refine Plan.no rfl rfl ?_
      refine Plan.no rfl rfl ?_
      refine Plan.pick (v := .bool _) rfl rfl rfl rfl ?_
      refine Plan.done ?_
      refine HW.cond_true rfl ?_
      refine HW.seq (HW.region [(0, .st), (1, .st)] rfl rfl ?_)
      refine Plan.assign (v := .slice _ _ _) rfl rfl rfl ?_
      refine Plan.assign (v := .int _ _) rfl rfl rfl ?_
      refine Plan.done ?_
      refine HW.addNil enc 2 52 ?_
      exact HW.ret ⟨rfl, _, [ownV none 0 []], .tmp rfl (.tmp rfl .nil), .cons_cons _ (List.nil_sublist _), none, 0, (by rw [hF]; rfl), by rw [hF]⟩
    · replace h28 := of_decide_eq_false h28
      refine Plan.move (v := .bool _) rfl rfl rfl ?_
      refine Plan.move (v := .int _ _) rfl rfl rfl ?_
      refine Plan.cmp2 rfl rfl rfl rfl rfl (fun h31 => ?_) (fun h31 => ?_)
      · replace h31 := of_decide_eq_true h31
        refine Plan.pick (v := .bool _) rfl rfl rfl rfl ?_
        refine Plan.move (v := .bool _) rfl rfl rfl ?_
        refine Plan.no rfl rfl ?_
        refine Plan.no rfl rfl ?_
        refine Plan.pick (v := .bool _) rfl rfl rfl rfl ?_
        refine Plan.move (v := .bool _) rfl rfl rfl ?_
        refine Plan.no rfl rfl ?_
        refine Plan.no rfl rfl ?_
        refine Plan.pick (v := .bool _) rfl rfl rfl rfl ?_
        refine Plan.move (v := .bool _) rfl rfl rfl ?_
        refine Plan.no rfl rfl ?_
        refine Plan.no rfl rfl ?_
        refine Plan.pick (v := .bool _) rfl rfl rfl rfl ?_
        refine Plan.done ?_
        refine HW.cond_true rfl ?_
        refine HW.seq (HW.region [(0, .st), (1, .st)] rfl rfl ?_)
        refine Plan.assign (v := .slice _ _ _) rfl rfl rfl ?_
        refine Plan.assign (v := .int _ _) rfl rfl rfl ?_
        refine Plan.done ?_
        refine HW.addNil enc 2 52 ?_
        exact HW.ret ⟨rfl, _, [ownV none 0 []], .tmp rfl (.tmp rfl .nil), .cons_cons _ (List.nil_sublist _), none, 0, (by rw [hF]; rfl), by rw [hF]⟩
      · replace h31 := of_decide_eq_false h31
        refine Plan.pick (v := .bool _) rfl rfl rfl rfl ?_
        refine Plan.move (v := .bool _) rfl rfl rfl ?_
        refine Plan.move (v := .int _ _) rfl rfl rfl ?_
        refine Plan.cmp2 rfl rfl rfl rfl rfl (fun h35 => ?_) (fun h35 => ?_)
        · replace h35 := of_decide_eq_true h35
          refine Plan.pick (v := .bool _) rfl rfl rfl rfl ?_
          refine Plan.move (v := .bool _) rfl rfl rfl ?_
          refine Plan.no rfl rfl ?_
          refine Plan.no rfl rfl ?_
          refine Plan.pick (v := .bool _) rfl rfl rfl rfl ?_
          refine Plan.move (v := .bool _) rfl rfl rfl ?_
          refine Plan.no rfl rfl ?_
          refine Plan.no rfl rfl ?_
          refine Plan.pick (v := .bool _) rfl rfl rfl rfl ?_
          refine Plan.done ?_
          refine HW.cond_true rfl ?_
          refine HW.seq (HW.region [(0, .st), (1, .st)] rfl rfl ?_)
          refine Plan.assign (v := .slice _ _ _) rfl rfl rfl ?_
          refine Plan.assign (v := .int _ _) rfl rfl rfl ?_
          refine Plan.done ?_
          refine HW.addNil enc 2 52 ?_
          exact HW.ret ⟨rfl, _, [ownV none 0 []], .tmp rfl (.tmp rfl .nil), .cons_cons _ (List.nil_sublist _), none, 0, (by rw [hF]; rfl), by rw [hF]⟩
        · replace h35 := of_decide_eq_false h35
          refine Plan.pick (v := .bool _) rfl rfl rfl rfl ?_
          refine Plan.move (v := .bool _) rfl rfl rfl ?_
          refine Plan.move (v := .int _ _) rfl rfl rfl ?_
          refine Plan.cmp2 rfl rfl rfl rfl rfl (fun h39 => ?_) (fun h39 => ?_)
          · replace h39 := of_decide_eq_true h39
            refine Plan.pick (v := .bool _) rfl rfl rfl rfl ?_
            refine Plan.move (v := .bool _) rfl rfl rfl ?_
            refine Plan.no rfl rfl ?_
            refine Plan.no rfl rfl ?_
            refine Plan.pick (v := .bool _) rfl rfl rfl rfl ?_
            refine Plan.done ?_
            refine HW.cond_true rfl ?_
            refine HW.seq (HW.region [(0, .st), (1, .st)] rfl rfl ?_)
            refine Plan.assign (v := .slice _ _ _) rfl rfl rfl ?_
            refine Plan.assign (v := .int _ _) rfl rfl rfl ?_
            refine Plan.done ?_
            refine HW.addNil enc 2 52 ?_
            exact HW.ret ⟨rfl, _, [ownV none 0 []], .tmp rfl (.tmp rfl .nil), .cons_cons _ (List.nil_sublist _), none, 0, (by rw [hF]; rfl), by rw [hF]⟩
          · replace h39 := of_decide_eq_false h39
            refine Plan.pick (v := .bool _) rfl rfl rfl rfl ?_
            refine Plan.move (v := .bool _) rfl rfl rfl ?_
            refine Plan.move (v := .bool _) rfl rfl rfl ?_
            refine Plan.not rfl rfl rfl ?_
            refine Plan.pick (v := .bool _) rfl rfl rfl rfl ?_
            refine Plan.done ?_
            refine HW.cond _ rfl (fun hc => ?_) (fun hc => ?_)
            · skip
              refine HW.seq (HW.region [(0, .st), (1, .st)] rfl rfl ?_)
              refine Plan.assign (v := .slice _ _ _) rfl rfl rfl ?_
              refine Plan.assign (v := .int _ _) rfl rfl rfl ?_
              refine Plan.done ?_
              refine HW.addNil enc 2 52 ?_
              exact HW.ret ⟨rfl, _, [ownV none 0 []], .tmp rfl (.tmp rfl .nil), .cons_cons _ (List.nil_sublist _), none, 0, (by rw [hF]; rfl), by rw [hF]⟩
            · skip
              have hadm : admB p (a, b, d) = true := by simpa using hc
              rw [LayB, hb, hg, hadm, decide_eq_true ⟨by omega, by omega, by omega, by omega⟩] at hL
              exact absurd hL (by decide)

theorem LayR_ok (A : Option Addr) (p : List Pt) (n c : Nat) (a b d x y : Int) (w : World) (hp : Rd enc 2 w A p) (hn : n = p.length) (hlen : p.length ≤ 1000000) (hb : blankF p = true) (hg : goodG (a, b, d) = true) (hadm : admB p (a, b, d) = true) (hx : 1 ≤ x ∧ x ≤ 100) (hy : 1 ≤ y ∧ y ≤ 100) :
    Ct P 26 #[.slice A n c, gdv a b d, int x, int y] w [] (fun r L => ∃ o c', r = .tuple #[slv o (LayF p (a, b, d) x y).1.length c', int (LayF p (a, b, d) x y).2] ∧ L = [ownV o c' (LayF p (a, b, d) x y).1]) := by
  subst hn
  have hAF : AdmissibleF p (a, b, d) = (true, 0) := by rw [AdmissibleF, if_pos (by rw [hb, hg]; rfl), hadm]
  have hF : LayF p (a, b, d) x y = (LayL p (a, b, d) x y, 0) := by rw [LayF, if_pos (by rw [LayB, hb, hg, hadm, decide_eq_true ⟨hx.1, hx.2, hy.1, hy.2⟩]; rfl)]
  obtain ⟨a1, a2, d1, d2, b1, b2⟩ := good_spec hg
  obtain ⟨s1, s2, s3⟩ := size_bd hb (w := x) (h := y) hx.2 hy.2
  have hpl : (pls p x y).length = nyF p y * nxF p x := plN_len _ _ _
  have hm0 := mul_bd (a := a) (b := d) (N := 400) (M := 400) (by omega) (by omega)
  have hm1 : 0 < a * d := Int.mul_pos (by omega) (by omega)
  obtain ⟨N, hN⟩ : ∃ N : Nat, a * d = (N : Int) := ⟨(a * d).toNat, by omega⟩
  have hNt : (a * d).toNat = N := by omega
  have hidx : ∀ v, idxF (a, b, d) v < N := fun v => by rw [← hNt]; exact idx_lt hg v
  refine Ct.of_body (rs := [.tmp 8, .tmp 9]) (N := 110) (L := []) Try.func26 rfl rfl rfl (by kernel_rfl) rfl (Mem.refl w) ?_
  refine HW.seq (HW.region [(0, .ef), (1, .st), (2, .st)] rfl rfl ?_)
  refine Plan.boxA rfl rfl rfl fun b5 => ?_
  refine Plan.assign (v := .slice _ _ _) rfl rfl rfl ?_
  refine Plan.assign (v := .int _ _) rfl rfl rfl ?_
  refine Plan.done ?_
  refine HW.seq (HW.region [(0, .st), (1, .st), (2, .ef), (3, .st), (4, .st), (5, .st), (6, .st), (7, .st)] rfl rfl ?_)
  refine Plan.move (v := .slice _ _ _) rfl rfl rfl ?_
  refine Plan.loadAll 0 rfl rfl aggGrid sizGrid rfl rfl rfl ?_
  refine Plan.callF [] 0 rfl rfl rfl (.inl rfl) (by simp) (fun w hm => (by have h5 := AdmissibleR_ct A p p.length c a b d w (hp.mem hm) rfl (by omega); rw [hAF] at h5; exact h5)) ?_
  rintro v Ln ⟨rfl, rfl⟩
  refine Plan.move (v := .tuple _) rfl rfl rfl ?_
  refine Plan.extract (v := .bool _) rfl rfl rfl rfl ?_
  refine Plan.extract (v := .int _ _) rfl rfl rfl rfl ?_
  refine Plan.assign (v := .bool _) rfl rfl rfl ?_
  refine Plan.assign (v := .int _ _) rfl rfl rfl ?_
  refine Plan.done ?_
  refine HW.seq ?_
  refine HW.seq (HW.region [(0, .st), (1, .st)] rfl rfl ?_)
  refine Plan.move (v := .int _ _) rfl rfl rfl ?_
  refine Plan.cmp2 rfl rfl rfl rfl rfl (fun h25 => ?_) (fun h25 => ?_)
  · replace h25 := ne_of_t h25
    exact absurd rfl h25
  · replace h25 := eq_of_f h25
    refine Plan.done ?_
    refine HW.cond_false rfl ?_
    refine HW.skip ?_
    refine HW.seq ?_
    refine HW.seq (HW.region [(0, .st), (1, .st), (2, .st), (3, .st), (4, .st), (5, .st), (6, .st), (7, .st), (8, .st), (9, .st), (10, .st), (11, .st), (12, .st), (13, .st), (14, .st), (15, .st), (16, .st), (17, .st)] rfl rfl ?_)
    refine Plan.move (v := .int _ _) rfl rfl rfl ?_
    refine Plan.cmp2 rfl rfl rfl rfl rfl (fun h28 => ?_) (fun h28 => ?_)
    · replace h28 := of_decide_eq_true h28
      omega
    · replace h28 := of_decide_eq_false h28
      refine Plan.move (v := .bool _) rfl rfl rfl ?_
      refine Plan.move (v := .int _ _) rfl rfl rfl ?_
      refine Plan.cmp2 rfl rfl rfl rfl rfl (fun h31 => ?_) (fun h31 => ?_)
      · replace h31 := of_decide_eq_true h31
        omega
      · replace h31 := of_decide_eq_false h31
        refine Plan.pick (v := .bool _) rfl rfl rfl rfl ?_
        refine Plan.move (v := .bool _) rfl rfl rfl ?_
        refine Plan.move (v := .int _ _) rfl rfl rfl ?_
        refine Plan.cmp2 rfl rfl rfl rfl rfl (fun h35 => ?_) (fun h35 => ?_)
        · replace h35 := of_decide_eq_true h35
          omega
        · replace h35 := of_decide_eq_false h35
          refine Plan.pick (v := .bool _) rfl rfl rfl rfl ?_
          refine Plan.move (v := .bool _) rfl rfl rfl ?_
          refine Plan.move (v := .int _ _) rfl rfl rfl ?_
          refine Plan.cmp2 rfl rfl rfl rfl rfl (fun h39 => ?_) (fun h39 => ?_)
          · replace h39 := of_decide_eq_true h39
            omega
          · replace h39 := of_decide_eq_false h39
            refine Plan.pick (v := .bool _) rfl rfl rfl rfl ?_
            refine Plan.move (v := .bool _) rfl rfl rfl ?_
            refine Plan.move (v := .bool _) rfl rfl rfl ?_
            refine Plan.not rfl rfl rfl ?_
            refine Plan.pick (v := .bool _) rfl rfl rfl rfl ?_
            refine Plan.done ?_
            refine HW.cond _ rfl (fun hc => ?_) (fun hc => ?_)
            · skip
              exact absurd hc (by decide)
            · skip
              refine HW.skip ?_
              refine HW.seq (HW.region [(0, .st), (1, .st), (2, .st), (3, .st), (4, .st), (5, .ef), (6, .st)] rfl rfl ?_)
              refine Plan.fieldAddr rfl rfl fldGrid0 rfl ?_
              refine Plan.load (v := .int _ _) rfl rfl aggI rfl (Sees.one 0 rfl rfl) ?_
              refine Plan.fieldAddr rfl rfl fldGrid2 rfl ?_
              refine Plan.load (v := .int _ _) rfl rfl aggI rfl (Sees.one 0 rfl rfl) ?_
              refine Plan.arithI rfl rfl rfl rfl rfl (by omega) ?_
              refine Plan.makeOwn (enc := encI) (sz := 1) 0 (N) rfl rfl slI infI rfl (by decide) rfl rfl hN (by omega) (by omega) fun b50 => ?_
              refine Plan.assign (v := .slice _ _ _) rfl rfl rfl ?_
              refine Plan.done ?_
              refine HW.seq (HW.region [(0, .st), (1, .st), (2, .st), (3, .ef), (4, .st)] rfl rfl ?_)
              refine Plan.move (v := .slice _ _ _) rfl rfl rfl ?_
              refine Plan.move (v := .int _ _) rfl rfl rfl ?_
              refine Plan.move (v := .int _ _) rfl rfl rfl ?_
              refine Plan.callF [] 0 rfl rfl rfl (.inl rfl) (by simp) (fun w hm => places_ct A p x y _ c w (hp.mem hm) rfl hb hx hy) ?_
              rintro v Ln ⟨o1, c1, rfl, rfl⟩
              refine Plan.assign (v := .slice _ _ _) rfl rfl rfl ?_
              refine Plan.done ?_
              refine HW.seq ?_
              refine HW.pure (p := 0 < (pls p x y).length → ∃ bb, o1 = some bb) (fun w' hm hpos => Res.own_some (hm.res (ownV o1 c1 (pls p x y)) (by simp)) hpos) fun hob => ?_
              refine HW.seq (HW.region [(0, .st)] rfl rfl ?_)
              refine Plan.assign (v := .int _ _) rfl rfl rfl ?_
              refine Plan.done ?_
              refine HW.block ?_
              refine HW.loopL (G := Nat) [14, 15, 55, 56, 57, 58, 59, 60, 61, 62, 63, 64, 65, 66, 67, 68, 69, 70, 71, 72, 73, 74, 75, 76, 77, 78, 79] (fun g => [(14, int ((g : Nat) : Int))]) (fun g => [ownV o1 c1 (pls p x y), ownI (some b50) N (cntL (a, b, d) ((pls p x y).take g) N), Res.blk b5 #[int a, int b, int d] 26]) (fun g => g ≤ (pls p x y).length) (fun g => (pls p x y).length - g) (0) ⟨rfl, trivial⟩ (fun w' hm => (by rw [List.take_zero, cntL_nil]; exact hm)) (Nat.zero_le _) (fun g F hok => ?_)
              refine HW.seq ?_
              refine HW.seq (HW.region [(0, .st), (1, .st), (2, .st), (3, .st)] rfl rfl ?_)
              refine Plan.move (v := .int _ _) rfl rfl rfl ?_
              refine Plan.move (v := .slice _ _ _) rfl rfl rfl ?_
              refine Plan.len rfl rfl slV rfl ?_
              refine Plan.cmp2 rfl rfl rfl rfl rfl (fun h58 => ?_) (fun h58 => ?_)
              · replace h58 := of_decide_eq_true h58
                have hlt : g < (pls p x y).length := by omega
                obtain ⟨bb, rfl⟩ := hob (by omega)
                have hbd := pls_bd hb hx.2 hy.2 (List.getElem_mem hlt)
                obtain ⟨o1, o2, o3, o4⟩ := off_bd hg (pls p x y)[g]
                have hcast := idx_cast hg (pls p x y)[g]
                have hil := hidx (pls p x y)[g]
                have hcl := cntL_len (a, b, d) ((pls p x y).take g) N
                have hcn := cnt_le (a, b, d) ((pls p x y).take g) (idxF (a, b, d) (pls p x y)[g])
                rw [List.length_take] at hcn
                have hmm := mul_bd (a := (offF (a, b, d) (pls p x y)[g]).1) (b := d) (N := 400) (M := 400) (by omega) (by omega)
                have hcast2 : (offF (a, b, d) ((pls p x y)[g].1, (pls p x y)[g].2)).1 * d + (offF (a, b, d) ((pls p x y)[g].1, (pls p x y)[g].2)).2 = ((idxF (a, b, d) (pls p x y)[g] : Nat) : Int) := hcast
                have hmm2 : -(400 * 400) ≤ (offF (a, b, d) ((pls p x y)[g].1, (pls p x y)[g].2)).1 * d ∧ (offF (a, b, d) ((pls p x y)[g].1, (pls p x y)[g].2)).1 * d ≤ 400 * 400 := hmm
                have hps := cntL_push hg ((pls p x y).take g) (pls p x y)[g] N
                rw [← take_push hlt] at hps
                refine Plan.done ?_
                refine HW.cond_true rfl ?_
                refine HW.skip ?_
                refine HW.seq ?_
                refine HW.block ?_
                refine HW.seq (HW.region_any [7] [(0, .st), (1, .st), (2, .st), (3, .st), (4, .st), (5, .ef), (6, .al), (7, .ef)] mix (by kernel_rfl) (fun _ _ _ _ _ h => h) (zeros rfl) ?_)
                refine Plan.loadAll 2 rfl rfl aggGrid sizGrid rfl rfl rfl ?_
                refine Plan.move (v := .slice _ _ _) rfl rfl rfl ?_
                refine Plan.move (v := .int _ _) rfl rfl rfl ?_
                refine Plan.indexN (g) rfl rfl slV sizV rfl rfl rfl rfl (hlt) ?_
                refine Plan.loadAgg rfl rfl aggV sizV rfl (Sees.own 0 enc2 rfl bb rfl g hlt) rfl ?_
                refine Plan.callF [] 0 rfl rfl rfl (.inl rfl) (by simp) (fun w hm => OffsetR_ct a b d _ _ w hg ⟨by have := hbd.1; unfold Bd at this; omega, by have := hbd.1; unfold Bd at this; omega⟩ ⟨by have := hbd.2; unfold Bd at this; omega, by have := hbd.2; unfold Bd at this; omega⟩) ?_
                rintro v Ln ⟨rfl, rfl⟩
                refine Plan.alloc rfl zerV fun b15 => ?_
                refine Plan.storeA 0 rfl rfl (hDs (by decide)) sizV rfl rfl rfl rfl rfl rfl ?_
                refine Plan.done ?_
                refine HW.region [(0, .st), (1, .st), (2, .st), (3, .st), (4, .st), (5, .st), (6, .st), (7, .st), (8, .st), (9, .st), (10, .st), (11, .st), (12, .st), (13, .ef)] rfl rfl ?_
                refine Plan.move (v := .slice _ _ _) rfl rfl rfl ?_
                refine Plan.fieldAddr rfl rfl fldV0 rfl ?_
                refine Plan.load (v := .int _ _) rfl rfl aggI rfl (Sees.one 0 rfl rfl) ?_
                refine Plan.fieldAddr rfl rfl fldGrid2 rfl ?_
                refine Plan.load (v := .int _ _) rfl rfl aggI rfl (Sees.one 3 rfl rfl) ?_
                refine Plan.arithI rfl rfl rfl rfl rfl (by omega) ?_
                refine Plan.fieldAddr rfl rfl fldV1 rfl ?_
                refine Plan.load (v := .int _ _) rfl rfl aggI rfl (Sees.one 0 rfl rfl) ?_
                refine Plan.arithI rfl rfl rfl rfl rfl (by omega) ?_
                refine Plan.indexN ((idxF (a, b, d) (pls p x y)[g])) rfl rfl slI sizI rfl rfl rfl hcast (hil) ?_
                refine Plan.load (v := .int _ _) rfl rfl aggI rfl (Sees.ownX (en := encI) 2 encI1 rfl b50 rfl (idxF (a, b, d) (pls p x y)[g]) (by rw [cntL_len]; exact hil) (cntL_get _ _ _)) ?_
                refine Plan.arithI rfl rfl rfl rfl rfl (by omega) ?_
                refine Plan.indexN ((idxF (a, b, d) (pls p x y)[g])) rfl rfl slI sizI rfl rfl rfl hcast (hil) ?_
                refine Plan.storeOwn (enc := encI) (sz := 1) (((cntF (a, b, d) ((pls p x y).take g) (idxF (a, b, d) (pls p x y)[g]) : Nat) + 1 : Int)) ((idxF (a, b, d) (pls p x y)[g])) (2) rfl rfl hDn sizI encI1 encIo rfl rfl rfl rfl rfl ((by rw [cntL_len]; exact hil)) ?_
                refine Plan.done ?_
                refine HW.region [(0, .st), (1, .st), (2, .st)] rfl rfl ?_
                refine Plan.move (v := .int _ _) rfl rfl rfl ?_
                refine Plan.arithI rfl rfl rfl rfl rfl (by omega) ?_
                refine Plan.assign (v := .int _ _) rfl rfl rfl ?_
                refine Plan.done ?_
                exact ⟨g + 1, by simp only; omega, hlt, rfl, (fun w' hm => by
                    show Mem _ _ [ownV (some bb) c1 (pls p x y), ownI (some b50) N (cntL (a, b, d) ((pls p x y).take (g + 1)) N), Res.blk b5 #[int a, int b, int d] 26] w'
                    rw [← hps]
                    exact hm.sub (.cons _ (.refl _))), (by repeat (first | exact Agree.havoc _ _ _ | refine Agree.updN ?_ | refine Agree.upd rfl ?_ | refine Agree.updL rfl ?_ | refine Agree.havoc2 rfl ?_)), ⟨int_eq (by push_cast; omega), trivial⟩⟩
              · replace h58 := of_decide_eq_false h58
                have hge : (pls p x y).take g = pls p x y := List.take_of_length_le (by omega)
                rw [hge]
                have hcl := cntL_len (a, b, d) (pls p x y) N
                refine Plan.done ?_
                refine HW.cond_false rfl ?_
                refine HW.exit ?_
                refine HW.seq (HW.region [(0, .st)] rfl rfl ?_)
                refine Plan.assign (v := .int _ _) rfl rfl rfl ?_
                refine Plan.done ?_
                refine HW.seq ?_
                refine HW.seq (HW.region [(0, .st)] rfl rfl ?_)
                refine Plan.assign (v := .int _ _) rfl rfl rfl ?_
                refine Plan.done ?_
                refine HW.block ?_
                refine HW.loopL (G := Nat) [16, 17, 80, 81, 82, 83, 84, 85, 86, 87, 88, 89, 90, 91, 92, 93, 94, 95] (fun g => [(16, int ((bst (cntF (a, b, d) (pls p x y)) g : Nat) : Int)), (17, int ((g + 1 : Nat) : Int))]) (fun g => [ownV o1 c1 (pls p x y), ownI (some b50) N (cntL (a, b, d) (pls p x y) N), Res.blk b5 #[int a, int b, int d] 26]) (fun g => g + 1 ≤ N) (fun g => N - g) (0) ⟨rfl, rfl, trivial⟩ (fun w' hm => hm) ((by show 0 + 1 ≤ N; omega)) (fun g F hok => ?_)
                have hbl := (bst_spec (cntF (a, b, d) (pls p x y)) g).1
                refine HW.seq ?_
                refine HW.seq (HW.region [(0, .st), (1, .st), (2, .st), (3, .st)] rfl rfl ?_)
                refine Plan.move (v := .int _ _) rfl rfl rfl ?_
                refine Plan.move (v := .slice _ _ _) rfl rfl rfl ?_
                refine Plan.len rfl rfl slI rfl ?_
                refine Plan.cmp2 rfl rfl rfl rfl rfl (fun h83 => ?_) (fun h83 => ?_)
                · replace h83 := of_decide_eq_true h83
                  have hgN : g + 1 < N := by omega
                  refine Plan.done ?_
                  refine HW.cond_true rfl ?_
                  refine HW.skip ?_
                  refine HW.seq ?_
                  refine HW.block ?_
                  refine HW.seq (HW.region_any [] [(0, .st), (1, .st), (2, .st), (3, .st), (4, .st), (5, .st), (6, .st), (7, .st), (8, .st)] mix (by kernel_rfl) (fun _ _ _ _ _ h => h) (zeros rfl) ?_)
                  refine Plan.move (v := .slice _ _ _) rfl rfl rfl ?_
                  refine Plan.move (v := .int _ _) rfl rfl rfl ?_
                  refine Plan.indexN ((g + 1)) rfl rfl slI sizI rfl rfl rfl rfl (hgN) ?_
                  refine Plan.load (v := .int _ _) rfl rfl aggI rfl (Sees.ownX (en := encI) 1 encI1 rfl b50 rfl (g + 1) (by rw [cntL_len]; exact hgN) (cntL_get _ _ _)) ?_
                  refine Plan.move (v := .slice _ _ _) rfl rfl rfl ?_
                  refine Plan.move (v := .int _ _) rfl rfl rfl ?_
                  refine Plan.indexN ((bst (cntF (a, b, d) (pls p x y)) g)) rfl rfl slI sizI rfl rfl rfl rfl ((by omega)) ?_
                  refine Plan.load (v := .int _ _) rfl rfl aggI rfl (Sees.ownX (en := encI) 1 encI1 rfl b50 rfl (bst (cntF (a, b, d) (pls p x y)) g) (by rw [cntL_len]; omega) (cntL_get _ _ _)) ?_
                  refine Plan.cmp2 rfl rfl rfl rfl rfl (fun h94 => ?_) (fun h94 => ?_)
                  · replace h94 := of_decide_eq_true h94
                    refine Plan.done ?_
                    refine HW.cond_true rfl ?_
                    refine HW.region [(0, .st), (1, .st)] rfl rfl ?_
                    refine Plan.move (v := .int _ _) rfl rfl rfl ?_
                    refine Plan.assign (v := .int _ _) rfl rfl rfl ?_
                    refine Plan.done ?_
                    refine HW.region [(0, .st), (1, .st), (2, .st)] rfl rfl ?_
                    refine Plan.move (v := .int _ _) rfl rfl rfl ?_
                    refine Plan.arithI rfl rfl rfl rfl rfl (by omega) ?_
                    refine Plan.assign (v := .int _ _) rfl rfl rfl ?_
                    refine Plan.done ?_
                    exact ⟨g + 1, by simp only; omega, hgN, rfl, Ent.sub (.refl _), (by repeat (first | exact Agree.havoc _ _ _ | refine Agree.updN ?_ | refine Agree.upd rfl ?_ | refine Agree.updL rfl ?_ | refine Agree.havoc2 rfl ?_)), ⟨int_eq (by rw [bst, if_pos (by omega)]), int_eq (by push_cast; omega), trivial⟩⟩
                  · replace h94 := of_decide_eq_false h94
                    refine Plan.done ?_
                    refine HW.cond_false rfl ?_
                    refine HW.skip ?_
                    refine HW.region [(0, .st), (1, .st), (2, .st)] rfl rfl ?_
                    refine Plan.move (v := .int _ _) rfl rfl rfl ?_
                    refine Plan.arithI rfl rfl rfl rfl rfl (by omega) ?_
                    refine Plan.assign (v := .int _ _) rfl rfl rfl ?_
                    refine Plan.done ?_
                    exact ⟨g + 1, by simp only; omega, hgN, rfl, Ent.sub (.refl _), (by repeat (first | exact Agree.havoc _ _ _ | refine Agree.updN ?_ | refine Agree.upd rfl ?_ | refine Agree.updL rfl ?_ | refine Agree.havoc2 rfl ?_)), ⟨int_eq (by rw [bst, if_neg (by omega)]), int_eq (by push_cast; omega), trivial⟩⟩
                · replace h83 := of_decide_eq_false h83
                  have hgN : g = (a * d).toNat - 1 := by omega
                  have hLL : LayL p (a, b, d) x y = clsF (a, b, d) (pls p x y) (cellF d (bst (cntF (a, b, d) (pls p x y)) g)) := by rw [hgN]; rfl
                  refine Plan.done ?_
                  refine HW.cond_false rfl ?_
                  refine HW.exit ?_
                  refine HW.seq (HW.region_any [] [(0, .st), (1, .st), (2, .st), (3, .st), (4, .st), (5, .st), (6, .st), (7, .st), (8, .st), (9, .st), (10, .st), (11, .st), (12, .st), (13, .ef), (14, .st), (15, .st)] mix (by kernel_rfl) (fun _ _ _ _ _ h => h) (zeros rfl) ?_)
                  refine Plan.move (v := .slice _ _ _) rfl rfl rfl ?_
                  refine Plan.loadAll 2 rfl rfl aggGrid sizGrid rfl rfl rfl ?_
                  refine Plan.move (v := .int _ _) rfl rfl rfl ?_
                  refine Plan.move (v := .int _ _) rfl rfl rfl ?_
                  refine Plan.move (v := .int _ _) rfl rfl rfl ?_
                  refine Plan.fieldAddr rfl rfl fldGrid2 rfl ?_
                  refine Plan.load (v := .int _ _) rfl rfl aggI rfl (Sees.one 2 rfl rfl) ?_
                  refine Plan.quo rfl rfl rfl rfl (by omega) ?_
                  refine Plan.move (v := .int _ _) rfl rfl rfl ?_
                  refine Plan.fieldAddr rfl rfl fldGrid2 rfl ?_
                  refine Plan.load (v := .int _ _) rfl rfl aggI rfl (Sees.one 2 rfl rfl) ?_
                  refine Plan.rem rfl rfl rfl rfl (by omega) ?_
                  refine Plan.build rfl rfl rfl (bldV _ _) ?_
                  refine Plan.callF [] 0 rfl rfl rfl (.inl rfl) (by simp) (fun w hm => Class_ct A p a b d x y (cellF d (bst (cntF (a, b, d) (pls p x y)) g)) _ c w (hp.mem hm) rfl hb hg hx hy) ?_
                  rintro v Ln ⟨o2, c2, rfl, rfl⟩
                  refine Plan.assign (v := .slice _ _ _) rfl rfl rfl ?_
                  refine Plan.assign (v := .int _ _) rfl rfl rfl ?_
                  refine Plan.done ?_
                  exact HW.ret ⟨rfl, _, [ownV o2 c2 (clsF (a, b, d) (pls p x y) (cellF d (bst (cntF (a, b, d) (pls p x y)) g)))], .tmp rfl (.tmp rfl .nil), .cons_cons _ (List.nil_sublist _), o2, c2, (by rw [hF, hLL]; rfl), by rw [hF, hLL]⟩

theorem LayR_ct (A : Option Addr) (p : List Pt) (n c : Nat) (a b d x y : Int) (w : World) (hp : Rd enc 2 w A p) (hn : n = p.length) (hlen : p.length ≤ 1000000) :
    Ct P 26 #[.slice A n c, gdv a b d, int x, int y] w [] (fun r L => ∃ o c', r = .tuple #[slv o (LayF p (a, b, d) x y).1.length c', int (LayF p (a, b, d) x y).2] ∧ L = [ownV o c' (LayF p (a, b, d) x y).1]) := by
  rcases Bool.eq_false_or_eq_true (blankF p && goodG (a, b, d)) with hb | hb
  · simp only [Bool.and_eq_true] at hb
    rcases Bool.eq_false_or_eq_true (LayB p (a, b, d) x y) with hL | hL
    · simp only [LayB, Bool.and_eq_true, decide_eq_true_eq] at hL
      obtain ⟨⟨_, hadm⟩, h1, h2, h3, h4⟩ := hL
      exact LayR_ok A p n c a b d x y w hp hn hlen hb.1 hb.2 hadm ⟨h1, h2⟩ ⟨h3, h4⟩
    · exact LayR_bad A p n c a b d x y w hp hn hlen hb.1 hb.2 hL
  · exact LayR_no A p n c a b d x y w hp hn hlen hb

end Go.Proofs.Ytjmklbkcpjmcaaa.V
