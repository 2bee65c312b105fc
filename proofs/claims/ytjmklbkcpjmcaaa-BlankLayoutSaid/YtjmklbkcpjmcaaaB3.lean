/-
  Package blank: Densest.
-/
import Derived.Test.YtjmklbkcpjmcaaaB2
import Derived.Test.YtjmklbkcpjmcaaaL1
namespace Go.Proofs.Ytjmklbkcpjmcaaa.V
open Go Go.RowKit Go.Proofs.Ytjmklbkcpjmcaaa.H Go.Proofs.Ytjmklbkcpjmcaaa.LL
set_option linter.unusedVariables false
set_option linter.unusedSimpArgs false

/-- a grid is admissible -/
def adm (p : List Pt) (g : Gr) : Prop := admB p ((g.1 : Int), (g.2.1 : Int), (g.2.2 : Int)) = true

theorem adm_13 (p : List Pt) : adm p (13, 0, 13) := by
  unfold adm admB
  rw [Bool.not_eq_true', List.any_eq_false]
  intro v hv
  obtain ⟨b1, b2⟩ := hits_bd hv
  have h0 : v ≠ (0, 0) := by
    simp only [hitsN, List.mem_filter, hitB, Bool.and_eq_true, decide_eq_true_eq] at hv
    exact hv.2.2
  obtain ⟨x, y⟩ := v
  unfold Bd at b1 b2
  simp only [hasG, Bool.and_eq_true, decide_eq_true_eq, not_and]
  intro h1 h2
  simp only at b1 b2
  have h1 : x.tmod 13 = 0 := h1
  have hx : x = 0 := by
    have := Int.mul_tdiv_add_tmod x 13
    omega
  subst hx
  have hy : y = 0 := by
    have := Int.mul_tdiv_add_tmod y 13
    have h2 : (y - (0 : Int).tdiv 13 * 0).tmod 13 = 0 := h2
    simp at h2
    omega
  subst hy
  exact h0 rfl

structure DnG where
  i : Nat
  x : Int
  y : Int
  z : Int

theorem Densest_ok (A : Option Addr) (p : List Pt) (n c : Nat) (w : World) (hp : Rd enc 2 w A p) (hn : n = p.length) (hlen : p.length ≤ 1000000) (hb : blankF p = true) :
    Ct P 16 #[.slice A n c] w [] (fun r L => (∃ i a b : Nat, Den (adm p) i a b ∧ i ≤ 169 ∧ r = .tuple #[gdv a b (i / a : Nat), int 0]) ∧ L = []) := by
  subst hn
  refine Ct.of_body (rs := [.cell 2 26, .tmp 3]) (N := 46) (L := []) Try.func16 rfl rfl rfl (by kernel_rfl) rfl (Mem.refl w) ?_
  refine HW.seq (HW.region [(0, .al), (1, .st)] rfl rfl ?_)
  refine Plan.alloc rfl zerGrid fun b2 => ?_
  refine Plan.assign (v := .int _ _) rfl rfl rfl ?_
  refine Plan.done ?_
  refine HW.scope ?_
  refine HW.seq (HW.region [(0, .st), (1, .ef), (2, .st), (3, .st), (4, .st), (5, .st), (6, .st)] rfl rfl ?_)
  refine Plan.move (v := .slice _ _ _) rfl rfl rfl ?_
  refine Plan.callF [] 0 rfl rfl rfl (.inl rfl) (by simp) (fun w hm => of_ct A p _ c w (hp.mem hm) rfl hlen hb) ?_   -- tinplate/blank.of
  rintro v Ln ⟨sb, m, rfl, rfl⟩
  refine Plan.move (v := .tuple _) rfl rfl rfl ?_
  refine Plan.extract (v := .pointer _) rfl rfl rfl rfl ?_
  refine Plan.extract (v := .bool _) rfl rfl rfl rfl ?_
  refine Plan.assign (v := .pointer _) rfl rfl rfl ?_
  refine Plan.assign (v := .bool _) rfl rfl rfl ?_
  refine Plan.done ?_
  refine HW.seq ?_
  refine HW.seq (HW.region [(0, .st), (1, .st)] rfl rfl ?_)
  refine Plan.move (v := .bool _) rfl rfl rfl ?_
  refine Plan.not rfl rfl rfl ?_
  refine Plan.done ?_
  refine HW.cond _ rfl (fun hc => ?_) (fun hc => ?_)
  · skip
    exact absurd hc (by decide)
  · skip
    refine HW.skip ?_
    refine HW.seq (HW.region [(0, .al)] rfl rfl ?_)
    refine Plan.alloc rfl zerGrid fun b6 => ?_
    refine Plan.done ?_
    refine HW.seq ?_
    refine HW.label ?_
    refine HW.seq ?_
    refine HW.seq (HW.region [(0, .st)] rfl rfl ?_)
    refine Plan.assign (v := .int _ _) rfl rfl rfl ?_
    refine Plan.done ?_
    refine HW.block ?_
    refine HW.loopL (G := DnG) [7, 8, 9, 18, 19, 20, 21, 22, 23, 24, 25, 26, 27, 28, 29, 30, 31, 32, 33, 34, 35, 36, 37, 38, 39, 40, 41, 42, 43, 44] (fun g => [(7, int g.i)]) (fun g => Res.blk b6 #[int g.x, int g.y, int g.z] 26 :: shapeL A p c sb m ++ [Res.blk b2 #[int 0, int 0, int 0] 26]) (fun g => 0 < g.i ∧ g.i ≤ 169 ∧ Low (adm p) g.i 1 0) (fun g => 169 - g.i) (⟨1, 0, 0, 0⟩) ⟨rfl, trivial⟩ (fun w' hm => hm) (⟨Nat.zero_lt_one, by show 1 ≤ 169; decide, Low.start _⟩) (fun g F hok => ?_)
    obtain ⟨i, x1, y1, z1⟩ := g
    obtain ⟨i0, i1, hl1⟩ := hok
    dsimp only at i0 i1 hl1
    dsimp only
    refine HW.seq ?_
    refine HW.block ?_
    refine HW.seq (HW.region [(0, .st)] rfl rfl ?_)
    refine Plan.assign (v := .int _ _) rfl rfl rfl ?_
    refine Plan.done ?_
    refine HW.block ?_
    refine HW.loopL (G := DnG) [8, 9, 20, 21, 22, 23, 24, 25, 26, 27, 28, 29, 30, 31, 32, 33, 34, 35, 36, 37, 38, 39, 40, 41, 42, 43, 44] (fun g => [(8, int g.i)]) (fun g => Res.blk b6 #[int g.x, int g.y, int g.z] 26 :: shapeL A p c sb m ++ [Res.blk b2 #[int 0, int 0, int 0] 26]) (fun g => 0 < g.i ∧ g.i ≤ i + 1 ∧ Low (adm p) i g.i 0) (fun g => i + 1 - g.i) (⟨1, x1, y1, z1⟩) ⟨rfl, trivial⟩ (fun w' hm => hm) (⟨Nat.zero_lt_one, by show 1 ≤ i + 1; omega, hl1⟩) (fun g F hok => ?_)
    obtain ⟨a, x2, y2, z2⟩ := g
    obtain ⟨a0, a1, hl2⟩ := hok
    dsimp only at a0 a1 hl2
    dsimp only
    refine HW.seq ?_
    refine HW.seq (HW.region [(0, .st), (1, .st), (2, .st)] rfl rfl ?_)
    refine Plan.move (v := .int _ _) rfl rfl rfl ?_
    refine Plan.move (v := .int _ _) rfl rfl rfl ?_
    refine Plan.cmp2 rfl rfl rfl rfl rfl (fun h22 => ?_) (fun h22 => ?_)
    · replace h22 := of_decide_eq_true h22
      have ha : a ≤ i := by omega
      refine Plan.done ?_
      refine HW.cond_true rfl ?_
      refine HW.skip ?_
      refine HW.seq ?_
      refine HW.block ?_
      refine HW.seq ?_
      refine HW.seq (HW.region [(0, .st), (1, .st), (2, .st), (3, .st)] rfl rfl ?_)
      refine Plan.move (v := .int _ _) rfl rfl rfl ?_
      refine Plan.move (v := .int _ _) rfl rfl rfl ?_
      refine Plan.rem rfl rfl rfl rfl (by omega) ?_
      refine Plan.cmp2 rfl rfl rfl rfl rfl (fun h28 => ?_) (fun h28 => ?_)
      · replace h28 := ne_of_t h28
        have hne : i % a ≠ 0 := fun h => h28 (by show ((i : Int) % (a : Int)) = 0; omega)
        refine Plan.done ?_
        refine HW.cond_true rfl ?_
        refine HW.exit ?_
        refine HW.region [(0, .st), (1, .st), (2, .st)] rfl rfl ?_
        refine Plan.move (v := .int _ _) rfl rfl rfl ?_
        refine Plan.arithI rfl rfl rfl rfl rfl (by omega) ?_
        refine Plan.assign (v := .int _ _) rfl rfl rfl ?_
        refine Plan.done ?_
        exact ⟨⟨a + 1, x2, y2, z2⟩, by dsimp only; omega, ⟨by show 0 < a + 1; omega, by show a + 1 ≤ i + 1; omega, hl2.nextA (.inl hne)⟩, rfl, Ent.sub (.refl _), (by repeat (first | exact Agree.havoc _ _ _ | refine Agree.updN ?_ | refine Agree.upd rfl ?_ | refine Agree.updL rfl ?_ | refine Agree.havoc2 rfl ?_)), ⟨rfl, trivial⟩⟩
      · replace h28 := eq_of_f h28
        have h0 : i % a = 0 := by have : ((i : Int) % (a : Int)) = 0 := h28; omega
        have hd := Nat.div_le_self i a
        have hd0 : 0 < i / a := Nat.div_pos ha a0
        refine Plan.done ?_
        refine HW.cond_false rfl ?_
        refine HW.skip ?_
        refine HW.seq (HW.region [(0, .st), (1, .st), (2, .st), (3, .st)] rfl rfl ?_)
        refine Plan.move (v := .int _ _) rfl rfl rfl ?_
        refine Plan.move (v := .int _ _) rfl rfl rfl ?_
        refine Plan.quo rfl rfl rfl rfl (by omega) ?_
        refine Plan.move (v := .int _ _) rfl rfl rfl ?_
        refine Plan.done ?_
        refine HW.block ?_
        refine HW.loopL (G := DnG) [9, 32, 33, 34, 35, 36, 37, 38, 39, 40, 41, 42, 43, 44] (fun g => [(32, int g.i)]) (fun g => Res.blk b6 #[int g.x, int g.y, int g.z] 26 :: shapeL A p c sb m ++ [Res.blk b2 #[int 0, int 0, int 0] 26]) (fun g => g.i ≤ i / a ∧ Low (adm p) i a g.i) (fun g => i / a - g.i) (⟨0, x2, y2, z2⟩) ⟨rfl, trivial⟩ (fun w' hm => hm) (⟨Nat.zero_le _, hl2⟩) (fun g F hok => ?_)
        obtain ⟨b, x3, y3, z3⟩ := g
        obtain ⟨b0, hl3⟩ := hok
        dsimp only at b0 hl3
        dsimp only
        refine HW.seq (HW.region [(0, .st)] rfl rfl ?_)
        refine Plan.cmp2 rfl rfl rfl rfl rfl (fun h33 => ?_) (fun h33 => ?_)
        · replace h33 := of_decide_eq_true h33
          have hbl : b < i / a := by have : (b : Int) < (i : Int) / (a : Int) := h33; omega
          have hgood : goodG ((a : Int), (b : Int), ((i / a : Nat) : Int)) = true := by simp only [goodG, decide_eq_true_eq]; omega
          refine Plan.done ?_
          refine HW.seq ?_
          refine HW.cond_true rfl ?_
          refine HW.skip ?_
          refine HW.seq ?_
          refine HW.block ?_
          refine HW.seq (HW.region [(0, .st), (1, .st)] rfl rfl ?_)
          refine Plan.move (v := .int _ _) rfl rfl rfl ?_
          refine Plan.assign (v := .int _ _) rfl rfl rfl ?_
          refine Plan.done ?_
          refine HW.seq (HW.region [(0, .st), (1, .st), (2, .st), (3, .st), (4, .st), (5, .st), (6, .ef)] rfl rfl ?_)
          refine Plan.move (v := .int _ _) rfl rfl rfl ?_
          refine Plan.move (v := .int _ _) rfl rfl rfl ?_
          refine Plan.move (v := .int _ _) rfl rfl rfl ?_
          refine Plan.move (v := .int _ _) rfl rfl rfl ?_
          refine Plan.quo rfl rfl rfl rfl (by omega) ?_
          refine Plan.build rfl rfl rfl (bldGrid _ _ _) ?_
          refine Plan.storeA 0 rfl rfl hDn sizGrid rfl rfl rfl rfl rfl rfl ?_
          refine Plan.done ?_
          refine HW.seq (HW.region [(0, .st), (1, .st), (2, .ef)] rfl rfl ?_)
          refine Plan.move (v := .pointer _) rfl rfl rfl ?_
          refine Plan.loadAll 0 rfl rfl aggGrid sizGrid rfl rfl rfl ?_
          refine Plan.callF [] 0 rfl rfl rfl (.inl rfl) (by simp) (fun w hm => admits_ct sb A _ c m (hits p) a b ((i / a : Nat) : Int) w (hm.res (Res.blk sb #[.slice A p.length c, .map (some m)] 96) (by simp)) (hm.res (Res.mp vc Value.bool m (tag (hits p))) (by simp)) hgood (fun v hv => hits_bd hv)) ?_   -- (*tinplate/blank.shape).admits
          rintro v Ln ⟨rfl, rfl⟩
          refine Plan.splitB (fun h43 => ?_) (fun h43 => ?_)
          · skip
            have hadm : adm p (a, b, i / a) := h43
            refine Plan.done ?_
            refine HW.cond_true rfl ?_
            refine HW.exit ?_
            refine HW.seq (HW.region [(0, .st), (1, .ef), (2, .st)] rfl rfl ?_)
            refine Plan.loadAll 0 rfl rfl aggGrid sizGrid rfl rfl rfl ?_
            refine Plan.storeA 3 rfl rfl hDn sizGrid rfl rfl rfl rfl rfl rfl ?_
            refine Plan.assign (v := .int _ _) rfl rfl rfl ?_
            refine Plan.done ?_
            exact HW.ret ⟨rfl, _, [], .cell rfl (own_loadAgg 3 rfl aggGrid sizGrid rfl) (.tmp rfl .nil), List.nil_sublist _, ⟨i, a, b, hl3.den a0 ha h0 hbl hadm, i1, rfl⟩, rfl⟩
          · skip
            have hnadm : ¬ adm p (a, b, i / a) := fun h => by rw [adm, admB, h43] at h; exact absurd h (by decide)
            refine Plan.done ?_
            refine HW.cond_false rfl ?_
            refine HW.skip ?_
            refine HW.region [(0, .st), (1, .st)] rfl rfl ?_
            refine Plan.arithI rfl rfl rfl rfl rfl (by omega) ?_
            refine Plan.move (v := .int _ _) rfl rfl rfl ?_
            refine Plan.done ?_
            exact ⟨⟨b + 1, a, b, (i / a : Nat)⟩, by dsimp only; omega, ⟨hbl, hl3.nextB hnadm⟩, rfl, Ent.sub (.refl _), (by repeat (first | exact Agree.havoc _ _ _ | refine Agree.updN ?_ | refine Agree.upd rfl ?_ | refine Agree.updL rfl ?_ | refine Agree.havoc2 rfl ?_)), ⟨rfl, trivial⟩⟩
        · replace h33 := of_decide_eq_false h33
          have hbe : i / a ≤ b := by have : ¬ (b : Int) < (i : Int) / (a : Int) := h33; omega
          refine Plan.done ?_
          refine HW.seq ?_
          refine HW.cond_false rfl ?_
          refine HW.exit ?_
          refine HW.region [(0, .st), (1, .st), (2, .st)] rfl rfl ?_
          refine Plan.move (v := .int _ _) rfl rfl rfl ?_
          refine Plan.arithI rfl rfl rfl rfl rfl (by omega) ?_
          refine Plan.assign (v := .int _ _) rfl rfl rfl ?_
          refine Plan.done ?_
          exact ⟨⟨a + 1, x3, y3, z3⟩, by dsimp only; omega, ⟨by show 0 < a + 1; omega, by show a + 1 ≤ i + 1; omega, hl3.nextA (.inr hbe)⟩, rfl, Ent.sub (.refl _), (by repeat (first | exact Agree.havoc _ _ _ | refine Agree.updN ?_ | refine Agree.upd rfl ?_ | refine Agree.updL rfl ?_ | refine Agree.havoc2 rfl ?_)), ⟨rfl, trivial⟩⟩
    · replace h22 := of_decide_eq_false h22
      have ha : i < a := by omega
      have hl4 := hl2.nextI ha
      have hi : i ≠ 169 := fun h => hl4 169 13 0 (by decide) (by decide) (by decide) (by decide) (by omega) (adm_13 p)
      refine Plan.done ?_
      refine HW.cond_false rfl ?_
      refine HW.exit ?_
      refine HW.region [(0, .st), (1, .st), (2, .st)] rfl rfl ?_
      refine Plan.move (v := .int _ _) rfl rfl rfl ?_
      refine Plan.arithI rfl rfl rfl rfl rfl (by omega) ?_
      refine Plan.assign (v := .int _ _) rfl rfl rfl ?_
      refine Plan.done ?_
      exact ⟨⟨i + 1, x2, y2, z2⟩, by dsimp only; omega, ⟨by show 0 < i + 1; omega, by show i + 1 ≤ 169; omega, hl4⟩, rfl, Ent.sub (.refl _), (by repeat (first | exact Agree.havoc _ _ _ | refine Agree.updN ?_ | refine Agree.upd rfl ?_ | refine Agree.updL rfl ?_ | refine Agree.havoc2 rfl ?_)), ⟨rfl, trivial⟩⟩

theorem Densest_no (A : Option Addr) (p : List Pt) (n c : Nat) (w : World) (hp : Rd enc 2 w A p) (hn : n = p.length) (hlen : p.length ≤ 1000000) (hb : blankF p = false) :
    Ct P 16 #[.slice A n c] w [] (fun r L => r = .tuple #[gdv 0 0 0, int 2] ∧ L = []) := by
  subst hn
  refine Ct.of_body (rs := [.cell 2 26, .tmp 3]) (N := 46) (L := []) Try.func16 rfl rfl rfl (by kernel_rfl) rfl (Mem.refl w) ?_
  refine HW.seq (HW.region [(0, .al), (1, .st)] rfl rfl ?_)
  refine Plan.alloc rfl zerGrid fun b2 => ?_
  refine Plan.assign (v := .int _ _) rfl rfl rfl ?_
  refine Plan.done ?_
  refine HW.scope ?_
  refine HW.seq (HW.region [(0, .st), (1, .ef), (2, .st), (3, .st), (4, .st), (5, .st), (6, .st)] rfl rfl ?_)
  refine Plan.move (v := .slice _ _ _) rfl rfl rfl ?_
  refine Plan.callF [] 0 rfl rfl rfl (.inl rfl) (by simp) (fun w hm => of_ct_no A p _ c w (hp.mem hm) rfl hlen hb) ?_   -- tinplate/blank.of
  rintro v Ln ⟨rfl, rfl⟩
  refine Plan.move (v := .tuple _) rfl rfl rfl ?_
  refine Plan.extract (v := .pointer _) rfl rfl rfl rfl ?_
  refine Plan.extract (v := .bool _) rfl rfl rfl rfl ?_
  refine Plan.assign (v := .pointer _) rfl rfl rfl ?_
  refine Plan.assign (v := .bool _) rfl rfl rfl ?_
  refine Plan.done ?_
  refine HW.seq ?_
  refine HW.seq (HW.region [(0, .st), (1, .st)] rfl rfl ?_)
  refine Plan.move (v := .bool _) rfl rfl rfl ?_
  refine Plan.not rfl rfl rfl ?_
  refine Plan.done ?_
  refine HW.cond _ rfl (fun hc => ?_) (fun hc => ?_)
  · skip
    refine HW.seq (HW.region [(0, .st), (1, .ef), (2, .st)] rfl rfl ?_)
    refine Plan.build rfl rfl rfl (bld0Grid) ?_
    refine Plan.storeA 0 rfl rfl hDn sizGrid rfl rfl rfl rfl rfl rfl ?_
    refine Plan.assign (v := .int _ _) rfl rfl rfl ?_
    refine Plan.done ?_
    exact HW.ret ⟨rfl, _, [], .cell rfl (own_loadAgg 0 rfl aggGrid sizGrid rfl) (.tmp rfl .nil), List.nil_sublist _, rfl, rfl⟩
  · skip
    exact absurd hc (by decide)

end Go.Proofs.Ytjmklbkcpjmcaaa.V
