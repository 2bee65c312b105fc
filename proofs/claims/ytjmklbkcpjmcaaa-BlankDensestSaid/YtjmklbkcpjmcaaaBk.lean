/-
  Package tinplateref04: Densest; BlankDensest, its contract.
-/
import Derived.Test.YtjmklbkcpjmcaaaBj
import Derived.Test.YtjmklbkcpjmcaaaBa
namespace Go.Proofs.Ytjmklbkcpjmcaaa.V
open Go Go.RowKit Go.Proofs.Ytjmklbkcpjmcaaa.H Go.Proofs.Ytjmklbkcpjmcaaa.LL
set_option linter.unusedVariables false
set_option linter.unusedSimpArgs false

theorem DensestR_ok (A : Option Addr) (p : List Pt) (n c : Nat) (w : World) (hp : Rd enc 2 w A p) (hn : n = p.length) (hlen : p.length ≤ 1000000) (hb : blankF p = true) :
    Ct P 17 #[.slice A n c] w [] (fun r L => (∃ i a b : Nat, Den (adm p) i a b ∧ i ≤ 169 ∧ r = .tuple #[gdv a b (i / a : Nat), int 0]) ∧ L = []) := by
  subst hn
  refine Ct.of_body (rs := [.cell 2 26, .tmp 3]) (N := 43) (L := []) Try.func17 rfl rfl rfl (by kernel_rfl) rfl (Mem.refl w) ?_
  refine HW.seq (HW.region [(0, .al), (1, .st)] rfl rfl ?_)
  refine Plan.alloc rfl zerGrid fun b2 => ?_
  refine Plan.assign (v := .int _ _) rfl rfl rfl ?_
  refine Plan.done ?_
  refine HW.seq ?_
  refine HW.seq (HW.region [(0, .st), (1, .ef), (2, .st)] rfl rfl ?_)
  refine Plan.move (v := .slice _ _ _) rfl rfl rfl ?_
  refine Plan.callF [] 0 rfl rfl rfl (.inl rfl) (by simp) (fun w hm => blankR_ct A p _ c w (hp.mem hm) rfl hlen) ?_   -- tinplate/tinplateref04.Blank
  rintro v Ln ⟨rfl, rfl⟩
  refine Plan.splitB (fun h10 => ?_) (fun h10 => ?_)
  · skip
    refine Plan.not rfl rfl rfl ?_
    refine Plan.done ?_
    refine HW.cond_false rfl ?_
    refine HW.skip ?_
    refine HW.seq (HW.region [(0, .st), (1, .ef), (2, .st)] rfl rfl ?_)
    refine Plan.move (v := .slice _ _ _) rfl rfl rfl ?_
    refine Plan.callF [] 0 rfl rfl rfl (.inl rfl) (by simp) (fun w hm => crossing_ct A p _ c w (hp.mem hm) rfl hb) ?_   -- tinplate/tinplateref04.crossing
    rintro v Ln ⟨o, c1, rfl, rfl⟩
    refine Plan.assign (v := .slice _ _ _) rfl rfl rfl ?_
    refine Plan.done ?_
    refine HW.seq (HW.region [(0, .st)] rfl rfl ?_)
    refine Plan.assign (v := .int _ _) rfl rfl rfl ?_
    refine Plan.done ?_
    refine HW.block ?_
    refine HW.loopC (G := OfG) [3, 5, 6, 7, 8, 15, 16, 17, 18, 19, 20, 21, 22, 23, 24, 25, 26, 27, 28, 29, 30, 31, 32, 33, 34, 35, 36, 37, 38, 39, 40, 41, 42] (fun g => [(5, int g.n)]) (fun g => 0 < g.n ∧ g.n ≤ 169 ∧ Low (adm p) g.n 1 0) (fun g => 169 - g.n) (⟨1⟩) ⟨rfl, trivial⟩ (⟨Nat.zero_lt_one, by show 1 ≤ 169; decide, Low.start _⟩) (fun g F hok => ?_)
    obtain ⟨i⟩ := g
    obtain ⟨i0, i1, hl1⟩ := hok
    dsimp only at i0 i1 hl1
    dsimp only
    refine HW.seq ?_
    refine HW.block ?_
    refine HW.seq (HW.region [(0, .st)] rfl rfl ?_)
    refine Plan.assign (v := .int _ _) rfl rfl rfl ?_
    refine Plan.done ?_
    refine HW.block ?_
    refine HW.loopC (G := OfG) [3, 6, 7, 8, 17, 18, 19, 20, 21, 22, 23, 24, 25, 26, 27, 28, 29, 30, 31, 32, 33, 34, 35, 36, 37, 38, 39, 40, 41, 42] (fun g => [(6, int g.n)]) (fun g => 0 < g.n ∧ g.n ≤ i + 1 ∧ Low (adm p) i g.n 0) (fun g => i + 1 - g.n) (⟨1⟩) ⟨rfl, trivial⟩ (⟨Nat.zero_lt_one, by show 1 ≤ i + 1; omega, hl1⟩) (fun g F hok => ?_)
    obtain ⟨a⟩ := g
    obtain ⟨a0, a1, hl2⟩ := hok
    dsimp only at a0 a1 hl2
    dsimp only
    refine HW.seq ?_
    refine HW.seq (HW.region [(0, .st), (1, .st), (2, .st)] rfl rfl ?_)
    refine Plan.move (v := .int _ _) rfl rfl rfl ?_
    refine Plan.move (v := .int _ _) rfl rfl rfl ?_
    refine Plan.cmp2 rfl rfl rfl rfl rfl (fun h19 => ?_) (fun h19 => ?_)
    · replace h19 := of_decide_eq_true h19
      have ha : a ≤ i := by omega
      refine Plan.done ?_
      refine HW.cond_true rfl ?_
      refine HW.skip ?_
      refine HW.seq ?_
      refine HW.block ?_
      refine HW.seq ?_
      refine HW.seq (HW.region [(0, .st), (1, .st), (2, .st), (3, .st)] rfl rfl ?_)
      refine Plan.move (v := .int _ _) rfl rfl rfl ?_
      refine Plan.move (v := .int _ _) rfl rfl rfl ?_
      refine Plan.rem rfl rfl rfl rfl (by omega) ?_
      refine Plan.cmp2 rfl rfl rfl rfl rfl (fun h25 => ?_) (fun h25 => ?_)
      · replace h25 := ne_of_t h25
        have hne : i % a ≠ 0 := fun h => h25 (by show ((i : Int) % (a : Int)) = 0; omega)
        refine Plan.done ?_
        refine HW.cond_true rfl ?_
        refine HW.exit ?_
        refine HW.region [(0, .st), (1, .st), (2, .st)] rfl rfl ?_
        refine Plan.move (v := .int _ _) rfl rfl rfl ?_
        refine Plan.arithI rfl rfl rfl rfl rfl (by omega) ?_
        refine Plan.assign (v := .int _ _) rfl rfl rfl ?_
        refine Plan.done ?_
        exact ⟨⟨a + 1⟩, by dsimp only; omega, ⟨by show 0 < a + 1; omega, by show a + 1 ≤ i + 1; omega, hl2.nextA (.inl hne)⟩, rfl, Ent.sub (.refl _), (by repeat (first | exact Agree.havoc _ _ _ | refine Agree.updN ?_ | refine Agree.upd rfl ?_ | refine Agree.updL rfl ?_ | refine Agree.havoc2 rfl ?_)), ⟨rfl, trivial⟩⟩
      · replace h25 := eq_of_f h25
        have h0 : i % a = 0 := by have : ((i : Int) % (a : Int)) = 0 := h25; omega
        have hd := Nat.div_le_self i a
        have hd0 : 0 < i / a := Nat.div_pos ha a0
        refine Plan.done ?_
        refine HW.cond_false rfl ?_
        refine HW.skip ?_
        refine HW.seq (HW.region [(0, .st)] rfl rfl ?_)
        refine Plan.assign (v := .int _ _) rfl rfl rfl ?_
        refine Plan.done ?_
        refine HW.block ?_
        refine HW.loopC (G := OfG) [3, 7, 8, 26, 27, 28, 29, 30, 31, 32, 33, 34, 35, 36, 37, 38, 39, 40, 41, 42] (fun g => [(7, int g.n)]) (fun g => g.n ≤ i / a ∧ Low (adm p) i a g.n) (fun g => i / a - g.n) (⟨0⟩) ⟨rfl, trivial⟩ (⟨Nat.zero_le _, hl2⟩) (fun g F hok => ?_)
        obtain ⟨b⟩ := g
        obtain ⟨b0, hl3⟩ := hok
        dsimp only at b0 hl3
        dsimp only
        refine HW.seq ?_
        refine HW.seq (HW.region [(0, .st), (1, .st), (2, .st), (3, .st), (4, .st)] rfl rfl ?_)
        refine Plan.move (v := .int _ _) rfl rfl rfl ?_
        refine Plan.move (v := .int _ _) rfl rfl rfl ?_
        refine Plan.move (v := .int _ _) rfl rfl rfl ?_
        refine Plan.quo rfl rfl rfl rfl (by omega) ?_
        refine Plan.cmp2 rfl rfl rfl rfl rfl (fun h30 => ?_) (fun h30 => ?_)
        · replace h30 := of_decide_eq_true h30
          have hbl : b < i / a := by have : (b : Int) < (i : Int) / (a : Int) := h30; omega
          have hgood : goodG ((a : Int), (b : Int), ((i / a : Nat) : Int)) = true := by simp only [goodG, decide_eq_true_eq]; omega
          refine Plan.done ?_
          refine HW.cond_true rfl ?_
          refine HW.skip ?_
          refine HW.seq ?_
          refine HW.block ?_
          refine HW.seq (HW.region [(0, .st), (1, .st), (2, .st), (3, .st), (4, .st), (5, .st), (6, .al), (7, .ef)] rfl rfl ?_)
          refine Plan.move (v := .int _ _) rfl rfl rfl ?_
          refine Plan.move (v := .int _ _) rfl rfl rfl ?_
          refine Plan.move (v := .int _ _) rfl rfl rfl ?_
          refine Plan.move (v := .int _ _) rfl rfl rfl ?_
          refine Plan.quo rfl rfl rfl rfl (by omega) ?_
          refine Plan.build rfl rfl rfl (bldGrid _ _ _) ?_
          refine Plan.alloc rfl zerGrid fun b8 => ?_
          refine Plan.storeA 0 rfl rfl hDn sizGrid rfl rfl rfl rfl rfl rfl ?_
          refine Plan.done ?_
          refine HW.seq (HW.region [(0, .st), (1, .st), (2, .ef)] rfl rfl ?_)
          refine Plan.move (v := .slice _ _ _) rfl rfl rfl ?_
          refine Plan.loadAll 0 rfl rfl aggGrid sizGrid rfl rfl rfl ?_
          refine Plan.callF [] 0 rfl rfl rfl (.inl rfl) (by simp) (fun w hm => free_ct (at0 o) (hits p) a b ((i / a : Nat) : Int) _ c1 w (Res.own_rd enc2 (hm.res (ownV o c1 (hits p)) (by simp))) rfl (Nat.le_trans (hits_len p 625) (by decide)) hgood (fun v hv => ⟨(hits_bd hv).1.mono (by omega), (hits_bd hv).2.mono (by omega)⟩)) ?_   -- tinplate/tinplateref04.free
          rintro v Ln ⟨rfl, rfl⟩
          refine Plan.splitB (fun h41 => ?_) (fun h41 => ?_)
          · skip
            have hadm : adm p (a, b, i / a) := h41
            refine Plan.done ?_
            refine HW.cond_true rfl ?_
            refine HW.seq (HW.region [(0, .st), (1, .ef), (2, .st)] rfl rfl ?_)
            refine Plan.loadAll 0 rfl rfl aggGrid sizGrid rfl rfl rfl ?_
            refine Plan.storeA 2 rfl rfl hDn sizGrid rfl rfl rfl rfl rfl rfl ?_
            refine Plan.assign (v := .int _ _) rfl rfl rfl ?_
            refine Plan.done ?_
            exact HW.ret ⟨rfl, _, [], .cell rfl (own_loadAgg 2 rfl aggGrid sizGrid rfl) (.tmp rfl .nil), List.nil_sublist _, ⟨i, a, b, hl3.den a0 ha h0 hbl hadm, i1, rfl⟩, rfl⟩
          · skip
            have hnadm : ¬ adm p (a, b, i / a) := fun h => by rw [adm, admB, h41] at h; exact absurd h (by decide)
            refine Plan.done ?_
            refine HW.cond_false rfl ?_
            refine HW.skip ?_
            refine HW.region [(0, .st), (1, .st), (2, .st)] rfl rfl ?_
            refine Plan.move (v := .int _ _) rfl rfl rfl ?_
            refine Plan.arithI rfl rfl rfl rfl rfl (by omega) ?_
            refine Plan.assign (v := .int _ _) rfl rfl rfl ?_
            refine Plan.done ?_
            exact ⟨⟨b + 1⟩, by dsimp only; omega, ⟨hbl, hl3.nextB hnadm⟩, rfl, Ent.sub (.cons _ (.refl _)), (by repeat (first | exact Agree.havoc _ _ _ | refine Agree.updN ?_ | refine Agree.upd rfl ?_ | refine Agree.updL rfl ?_ | refine Agree.havoc2 rfl ?_)), ⟨rfl, trivial⟩⟩
        · replace h30 := of_decide_eq_false h30
          have hbe : i / a ≤ b := by have : ¬ (b : Int) < (i : Int) / (a : Int) := h30; omega
          refine Plan.done ?_
          refine HW.cond_false rfl ?_
          refine HW.exit ?_
          refine HW.region [(0, .st), (1, .st), (2, .st)] rfl rfl ?_
          refine Plan.move (v := .int _ _) rfl rfl rfl ?_
          refine Plan.arithI rfl rfl rfl rfl rfl (by omega) ?_
          refine Plan.assign (v := .int _ _) rfl rfl rfl ?_
          refine Plan.done ?_
          exact ⟨⟨a + 1⟩, by dsimp only; omega, ⟨by show 0 < a + 1; omega, by show a + 1 ≤ i + 1; omega, hl3.nextA (.inr hbe)⟩, rfl, Ent.sub (.refl _), (by repeat (first | exact Agree.havoc _ _ _ | refine Agree.updN ?_ | refine Agree.upd rfl ?_ | refine Agree.updL rfl ?_ | refine Agree.havoc2 rfl ?_)), ⟨rfl, trivial⟩⟩
    · replace h19 := of_decide_eq_false h19
      have ha : i < a := by omega
      have hl4 := hl2.nextI ha
      have hi : i ≠ 169 := fun h => hl4 169 13 0 (by decide) (by decide) (by decide) (by decide) (by omega) (adm_13 p)
      refine Plan.done ?_
      refine HW.cond_false rfl ?_
      refine HW.exit ?_
      refine HW.region [(0, .st), (1, .st), (2, .st)] rfl rfl ?_
      refine Plan.move (v := .int _ _) rfl rfl rfl ?_
      refine Plan.arithI rfl rfl rfl rfl rfl (by omega) ?_
      refine Plan.assign (v := .int _ _) rfl rfl rfl ?_
      refine Plan.done ?_
      exact ⟨⟨i + 1⟩, by dsimp only; omega, ⟨by show 0 < i + 1; omega, by show i + 1 ≤ 169; omega, hl4⟩, rfl, Ent.sub (.refl _), (by repeat (first | exact Agree.havoc _ _ _ | refine Agree.updN ?_ | refine Agree.upd rfl ?_ | refine Agree.updL rfl ?_ | refine Agree.havoc2 rfl ?_)), ⟨rfl, trivial⟩⟩
  · skip
    rw [hb] at h10; cases h10

theorem DensestR_no (A : Option Addr) (p : List Pt) (n c : Nat) (w : World) (hp : Rd enc 2 w A p) (hn : n = p.length) (hlen : p.length ≤ 1000000) (hb : blankF p = false) :
    Ct P 17 #[.slice A n c] w [] (fun r L => r = .tuple #[gdv 0 0 0, int 2] ∧ L = []) := by
  subst hn
  refine Ct.of_body (rs := [.cell 2 26, .tmp 3]) (N := 43) (L := []) Try.func17 rfl rfl rfl (by kernel_rfl) rfl (Mem.refl w) ?_
  refine HW.seq (HW.region [(0, .al), (1, .st)] rfl rfl ?_)
  refine Plan.alloc rfl zerGrid fun b2 => ?_
  refine Plan.assign (v := .int _ _) rfl rfl rfl ?_
  refine Plan.done ?_
  refine HW.seq ?_
  refine HW.seq (HW.region [(0, .st), (1, .ef), (2, .st)] rfl rfl ?_)
  refine Plan.move (v := .slice _ _ _) rfl rfl rfl ?_
  refine Plan.callF [] 0 rfl rfl rfl (.inl rfl) (by simp) (fun w hm => blankR_ct A p _ c w (hp.mem hm) rfl hlen) ?_   -- tinplate/tinplateref04.Blank
  rintro v Ln ⟨rfl, rfl⟩
  refine Plan.splitB (fun h10 => ?_) (fun h10 => ?_)
  · skip
    rw [hb] at h10; cases h10
  · skip
    refine Plan.not rfl rfl rfl ?_
    refine Plan.done ?_
    refine HW.cond_true rfl ?_
    refine HW.seq (HW.region [(0, .st), (1, .ef), (2, .st)] rfl rfl ?_)
    refine Plan.build rfl rfl rfl (bld0Grid) ?_
    refine Plan.storeA 0 rfl rfl hDn sizGrid rfl rfl rfl rfl rfl rfl ?_
    refine Plan.assign (v := .int _ _) rfl rfl rfl ?_
    refine Plan.done ?_
    exact HW.ret ⟨rfl, _, [], .cell rfl (own_loadAgg 0 rfl aggGrid sizGrid rfl) (.tmp rfl .nil), List.nil_sublist _, rfl, rfl⟩

theorem Dens_ok (A : Option Addr) (p : List Pt) (n c : Nat) (w : World) (hp : Rd enc 2 w A p) (hn : n = p.length) (h60 : p.length ≤ 60) (hb : blankF p = true) :
    Ct P 3 #[.slice A n c] w [] (fun r L => r = .bool true ∧ L = []) := by
  subst hn
  refine Ct.of_body (rs := [.tmp 2]) (N := 32) (L := []) Try.func3 rfl rfl rfl (by kernel_rfl) rfl (Mem.refl w) ?_
  refine HW.seq (HW.region [(0, .st)] rfl rfl ?_)
  refine Plan.assign (v := .bool _) rfl rfl rfl ?_
  refine Plan.done ?_
  refine HW.seq ?_
  refine HW.seq (HW.region [(0, .st), (1, .ef), (2, .st)] rfl rfl ?_)
  refine Plan.move (v := .slice _ _ _) rfl rfl rfl ?_
  refine Plan.callF [] 0 rfl rfl rfl (.inl rfl) (by simp) (fun w hm => few_ct A p _ c w rfl) ?_   -- tinplate/tinplatelaw04.few
  rintro v Ln ⟨rfl, rfl⟩
  refine Plan.splitB (fun h8 => ?_) (fun h8 => ?_)
  · skip
    refine Plan.not rfl rfl rfl ?_
    refine Plan.done ?_
    refine HW.cond_false rfl ?_
    refine HW.skip ?_
    refine HW.seq (HW.region [(0, .st), (1, .ef), (2, .st), (3, .st), (4, .st), (5, .al), (6, .ef), (7, .st)] rfl rfl ?_)
    refine Plan.move (v := .slice _ _ _) rfl rfl rfl ?_
    refine Plan.callF [] 0 rfl rfl rfl (.inl rfl) (by simp) (fun w hm => Densest_ok A p _ c w (hp.mem hm) rfl (by omega) hb) ?_   -- tinplate/blank.Densest
    rintro v Ln ⟨⟨i, a, b, hd, hi, rfl⟩, rfl⟩
    refine Plan.move (v := .tuple _) rfl rfl rfl ?_
    refine Plan.extract (v := .agg _) rfl rfl rfl rfl ?_
    refine Plan.extract (v := .int _ _) rfl rfl rfl rfl ?_
    refine Plan.alloc rfl zerGrid fun b3 => ?_
    refine Plan.storeA 0 rfl rfl hDn sizGrid rfl rfl rfl rfl rfl rfl ?_
    refine Plan.assign (v := .int _ _) rfl rfl rfl ?_
    refine Plan.done ?_
    refine HW.seq (HW.region [(0, .st), (1, .ef), (2, .st), (3, .st), (4, .st), (5, .al), (6, .ef), (7, .st)] rfl rfl ?_)
    refine Plan.move (v := .slice _ _ _) rfl rfl rfl ?_
    refine Plan.callF [] 0 rfl rfl rfl (.inl rfl) (by simp) (fun w hm => DensestR_ok A p _ c w (hp.mem hm) rfl (by omega) hb) ?_   -- tinplate/tinplateref04.Densest
    rintro v Ln ⟨⟨i2, a2, b2, hd2, hi2, rfl⟩, rfl⟩
    obtain ⟨rfl, rfl, rfl⟩ := hd.unique hd2
    refine Plan.move (v := .tuple _) rfl rfl rfl ?_
    refine Plan.extract (v := .agg _) rfl rfl rfl rfl ?_
    refine Plan.extract (v := .int _ _) rfl rfl rfl rfl ?_
    refine Plan.alloc rfl zerGrid fun b5 => ?_
    refine Plan.storeA 0 rfl rfl hDn sizGrid rfl rfl rfl rfl rfl rfl ?_
    refine Plan.assign (v := .int _ _) rfl rfl rfl ?_
    refine Plan.done ?_
    refine HW.seq (HW.region [(0, .st), (1, .st), (2, .st), (3, .st), (4, .st), (5, .st), (6, .st), (7, .st), (8, .st), (9, .ef), (10, .st), (11, .st)] rfl rfl ?_)
    refine Plan.loadAll 1 rfl rfl aggGrid sizGrid rfl rfl rfl ?_
    refine Plan.loadAll 0 rfl rfl aggGrid sizGrid rfl rfl rfl ?_
    refine Plan.eqT eqtGrid (((a : Int), (b : Int), ((i / a : Nat) : Int))) (((a : Int), (b : Int), ((i / a : Nat) : Int))) rfl rfl rfl rfl rfl (fun h23 => ?_) (fun h23 => ?_)
    · skip
      refine Plan.move (v := .bool _) rfl rfl rfl ?_
      refine Plan.move (v := .int _ _) rfl rfl rfl ?_
      refine Plan.move (v := .int _ _) rfl rfl rfl ?_
      refine Plan.cmp2 rfl rfl rfl rfl rfl (fun h27 => ?_) (fun h27 => ?_)
      · replace h27 := of_decide_eq_true h27
        refine Plan.pick (v := .bool _) rfl rfl rfl rfl ?_
        refine Plan.move (v := .bool _) rfl rfl rfl ?_
        refine Plan.callF [] 0 rfl rfl rfl (.inl rfl) (by simp) (fun w hm => alive_ct w) ?_   -- tinplate/tinplatelaw04.alive
        rintro v Ln ⟨rfl, rfl⟩
        refine Plan.splitB (fun h30 => ?_) (fun h30 => ?_)
        · skip
          refine Plan.pick (v := .bool _) rfl rfl rfl rfl ?_
          refine Plan.assign (v := .bool _) rfl rfl rfl ?_
          refine Plan.done ?_
          exact HW.ret ⟨rfl, _, [], .tmp rfl .nil, List.nil_sublist _, rfl, rfl⟩
        · skip
          exact absurd h30 (by decide)
      · replace h27 := of_decide_eq_false h27
        exact absurd rfl h27
    · skip
      exact absurd rfl h23
  · skip
    exact absurd h60 (of_decide_eq_false h8)

theorem Dens_no (A : Option Addr) (p : List Pt) (n c : Nat) (w : World) (hp : Rd enc 2 w A p) (hn : n = p.length) (h60 : p.length ≤ 60) (hb : blankF p = false) :
    Ct P 3 #[.slice A n c] w [] (fun r L => r = .bool true ∧ L = []) := by
  subst hn
  refine Ct.of_body (rs := [.tmp 2]) (N := 32) (L := []) Try.func3 rfl rfl rfl (by kernel_rfl) rfl (Mem.refl w) ?_
  refine HW.seq (HW.region [(0, .st)] rfl rfl ?_)
  refine Plan.assign (v := .bool _) rfl rfl rfl ?_
  refine Plan.done ?_
  refine HW.seq ?_
  refine HW.seq (HW.region [(0, .st), (1, .ef), (2, .st)] rfl rfl ?_)
  refine Plan.move (v := .slice _ _ _) rfl rfl rfl ?_
  refine Plan.callF [] 0 rfl rfl rfl (.inl rfl) (by simp) (fun w hm => few_ct A p _ c w rfl) ?_   -- tinplate/tinplatelaw04.few
  rintro v Ln ⟨rfl, rfl⟩
  refine Plan.splitB (fun h8 => ?_) (fun h8 => ?_)
  · skip
    refine Plan.not rfl rfl rfl ?_
    refine Plan.done ?_
    refine HW.cond_false rfl ?_
    refine HW.skip ?_
    refine HW.seq (HW.region [(0, .st), (1, .ef), (2, .st), (3, .st), (4, .st), (5, .al), (6, .ef), (7, .st)] rfl rfl ?_)
    refine Plan.move (v := .slice _ _ _) rfl rfl rfl ?_
    refine Plan.callF [] 0 rfl rfl rfl (.inl rfl) (by simp) (fun w hm => Densest_no A p _ c w (hp.mem hm) rfl (by omega) hb) ?_   -- tinplate/blank.Densest
    rintro v Ln ⟨rfl, rfl⟩
    refine Plan.move (v := .tuple _) rfl rfl rfl ?_
    refine Plan.extract (v := .agg _) rfl rfl rfl rfl ?_
    refine Plan.extract (v := .int _ _) rfl rfl rfl rfl ?_
    refine Plan.alloc rfl zerGrid fun b3 => ?_
    refine Plan.storeA 0 rfl rfl hDn sizGrid rfl rfl rfl rfl rfl rfl ?_
    refine Plan.assign (v := .int _ _) rfl rfl rfl ?_
    refine Plan.done ?_
    refine HW.seq (HW.region [(0, .st), (1, .ef), (2, .st), (3, .st), (4, .st), (5, .al), (6, .ef), (7, .st)] rfl rfl ?_)
    refine Plan.move (v := .slice _ _ _) rfl rfl rfl ?_
    refine Plan.callF [] 0 rfl rfl rfl (.inl rfl) (by simp) (fun w hm => DensestR_no A p _ c w (hp.mem hm) rfl (by omega) hb) ?_   -- tinplate/tinplateref04.Densest
    rintro v Ln ⟨rfl, rfl⟩
    refine Plan.move (v := .tuple _) rfl rfl rfl ?_
    refine Plan.extract (v := .agg _) rfl rfl rfl rfl ?_
    refine Plan.extract (v := .int _ _) rfl rfl rfl rfl ?_
    refine Plan.alloc rfl zerGrid fun b5 => ?_
    refine Plan.storeA 0 rfl rfl hDn sizGrid rfl rfl rfl rfl rfl rfl ?_
    refine Plan.assign (v := .int _ _) rfl rfl rfl ?_
    refine Plan.done ?_
    refine HW.seq (HW.region [(0, .st), (1, .st), (2, .st), (3, .st), (4, .st), (5, .st), (6, .st), (7, .st), (8, .st), (9, .ef), (10, .st), (11, .st)] rfl rfl ?_)
    refine Plan.loadAll 1 rfl rfl aggGrid sizGrid rfl rfl rfl ?_
    refine Plan.loadAll 0 rfl rfl aggGrid sizGrid rfl rfl rfl ?_
    refine Plan.eqT eqtGrid (((0 : Int), (0 : Int), (0 : Int))) (((0 : Int), (0 : Int), (0 : Int))) rfl rfl rfl rfl rfl (fun h23 => ?_) (fun h23 => ?_)
    · skip
      refine Plan.move (v := .bool _) rfl rfl rfl ?_
      refine Plan.move (v := .int _ _) rfl rfl rfl ?_
      refine Plan.move (v := .int _ _) rfl rfl rfl ?_
      refine Plan.cmp2 rfl rfl rfl rfl rfl (fun h27 => ?_) (fun h27 => ?_)
      · replace h27 := of_decide_eq_true h27
        refine Plan.pick (v := .bool _) rfl rfl rfl rfl ?_
        refine Plan.move (v := .bool _) rfl rfl rfl ?_
        refine Plan.callF [] 0 rfl rfl rfl (.inl rfl) (by simp) (fun w hm => alive_ct w) ?_   -- tinplate/tinplatelaw04.alive
        rintro v Ln ⟨rfl, rfl⟩
        refine Plan.splitB (fun h30 => ?_) (fun h30 => ?_)
        · skip
          refine Plan.pick (v := .bool _) rfl rfl rfl rfl ?_
          refine Plan.assign (v := .bool _) rfl rfl rfl ?_
          refine Plan.done ?_
          exact HW.ret ⟨rfl, _, [], .tmp rfl .nil, List.nil_sublist _, rfl, rfl⟩
        · skip
          exact absurd h30 (by decide)
      · replace h27 := of_decide_eq_false h27
        exact absurd rfl h27
    · skip
      exact absurd rfl h23
  · skip
    exact absurd h60 (of_decide_eq_false h8)

theorem Dens_far (A : Option Addr) (p : List Pt) (n c : Nat) (w : World) (hn : n = p.length) (h60 : ¬ p.length ≤ 60) :
    Ct P 3 #[.slice A n c] w [] (fun r L => r = .bool true ∧ L = []) := by
  subst hn
  refine Ct.of_body (rs := [.tmp 2]) (N := 32) (L := []) Try.func3 rfl rfl rfl (by kernel_rfl) rfl (Mem.refl w) ?_
  refine HW.seq (HW.region [(0, .st)] rfl rfl ?_)
  refine Plan.assign (v := .bool _) rfl rfl rfl ?_
  refine Plan.done ?_
  refine HW.seq ?_
  refine HW.seq (HW.region [(0, .st), (1, .ef), (2, .st)] rfl rfl ?_)
  refine Plan.move (v := .slice _ _ _) rfl rfl rfl ?_
  refine Plan.callF [] 0 rfl rfl rfl (.inl rfl) (by simp) (fun w hm => few_ct A p _ c w rfl) ?_   -- tinplate/tinplatelaw04.few
  rintro v Ln ⟨rfl, rfl⟩
  refine Plan.splitB (fun h8 => ?_) (fun h8 => ?_)
  · skip
    exact absurd (of_decide_eq_true h8) h60
  · skip
    refine Plan.not rfl rfl rfl ?_
    refine Plan.done ?_
    refine HW.cond_true rfl ?_
    refine HW.seq (HW.region [(0, .ef), (1, .st)] rfl rfl ?_)
    refine Plan.callF [] 0 rfl rfl rfl (.inl rfl) (by simp) (fun w hm => alive_ct w) ?_   -- tinplate/tinplatelaw04.alive
    rintro v Ln ⟨rfl, rfl⟩
    refine Plan.splitB (fun h10 => ?_) (fun h10 => ?_)
    · skip
      refine Plan.assign (v := .bool _) rfl rfl rfl ?_
      refine Plan.done ?_
      exact HW.ret ⟨rfl, _, [], .tmp rfl .nil, List.nil_sublist _, rfl, rfl⟩
    · skip
      exact absurd h10 (by decide)

theorem blankDensest_ct (A : Option Addr) (p : List Pt) (n c : Nat) (w : World) (hp : Rd enc 2 w A p) (hn : n = p.length) :
    Ct P 3 #[.slice A n c] w [] (fun r L => r = .bool true ∧ L = []) := by
  by_cases h60 : p.length ≤ 60
  · rcases Bool.eq_false_or_eq_true (blankF p) with hb | hb
    · exact Dens_ok A p n c w hp hn h60 hb
    · exact Dens_no A p n c w hp hn h60 hb
  · exact Dens_far A p n c w hn h60

end Go.Proofs.Ytjmklbkcpjmcaaa.V
