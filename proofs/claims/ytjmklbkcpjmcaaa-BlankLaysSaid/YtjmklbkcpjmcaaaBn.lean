/-
  Admissible and Witness, whole; BlankGrids, its contract.
-/
import Derived.Test.YtjmklbkcpjmcaaaBm
import Derived.Test.YtjmklbkcpjmcaaaV15
namespace Go.Proofs.Ytjmklbkcpjmcaaa.V
open Go Go.RowKit Go.Proofs.Ytjmklbkcpjmcaaa.H Go.Proofs.Ytjmklbkcpjmcaaa.LL
set_option linter.unusedVariables false
set_option linter.unusedSimpArgs false

theorem undB2 : P.underlying 4 = some .bool := by kernel_rfl

theorem AdmissibleR_ct (A : Option Addr) (p : List Pt) (n c : Nat) (a b d : Int) (w : World) (hp : Rd enc 2 w A p) (hn : n = p.length) (hlen : p.length ≤ 1000000) :
    Ct P 29 #[.slice A n c, gdv a b d] w [] (fun r L => r = .tuple #[.bool (AdmissibleF p (a, b, d)).1, int (AdmissibleF p (a, b, d)).2] ∧ L = []) := by
  rcases Bool.eq_false_or_eq_true (blankF p && goodG (a, b, d)) with hb | hb
  · have hF : AdmissibleF p (a, b, d) = (admB p (a, b, d), 0) := by rw [AdmissibleF, if_pos hb]
    simp only [hF]
    simp only [Bool.and_eq_true] at hb
    exact AdmissibleR_ok A p n c a b d w hp hn hlen hb.1 hb.2
  · have hF : AdmissibleF p (a, b, d) = (false, 2) := by rw [AdmissibleF, if_neg (by rw [hb]; decide)]
    simp only [hF]
    exact AdmissibleR_no A p n c a b d w hp hn hlen hb

/-- what Witness returns, whole -/
def WitS (p : List Pt) (g : Gd) (v : Pt) (e : Int) : Prop := if (blankF p && goodG g) = true then WitR p g v e else (v = (0, 0) ∧ e = 2)
theorem WitS.unique {p : List Pt} {g : Gd} {v v' : Pt} {e e' : Int} (h : WitS p g v e) (h' : WitS p g v' e') : v = v' ∧ e = e' := by
  unfold WitS at h h'
  split at h
  · next hc => rw [if_pos hc] at h'; exact h.unique h'
  · next hc => rw [if_neg hc] at h'; exact ⟨h.1.trans h'.1.symm, h.2.trans h'.2.symm⟩

theorem WitnessB_ct (A : Option Addr) (p : List Pt) (n c : Nat) (a b d : Int) (w : World) (hp : Rd enc 2 w A p) (hn : n = p.length) (hlen : p.length ≤ 1000000) :
    Ct P 30 #[.slice A n c, gdv a b d] w [] (fun r L => ∃ v e, WitS p (a, b, d) v e ∧ r = .tuple #[vc v, int e] ∧ L = []) := by
  rcases Bool.eq_false_or_eq_true (blankF p) with hb | hb
  · rcases Bool.eq_false_or_eq_true (goodG (a, b, d)) with hg | hg
    · refine (WitnessB_ok A p n c a b d w hp hn hlen hb hg).mono ?_
      rintro r L ⟨v, e, h, hr, hL⟩
      exact ⟨v, e, by rw [WitS, if_pos (by rw [hb, hg]; rfl)]; exact h, hr, hL⟩
    · refine (WitnessB_bad A p n c a b d w hp hn hlen hb hg).mono ?_
      rintro r L ⟨hr, hL⟩
      exact ⟨(0, 0), 2, by rw [WitS, if_neg (by rw [hb, hg]; decide)]; exact ⟨rfl, rfl⟩, hr, hL⟩
  · refine (WitnessB_no A p n c a b d w hp hn hlen hb).mono ?_
    rintro r L ⟨hr, hL⟩
    exact ⟨(0, 0), 2, by rw [WitS, if_neg (by rw [hb, Bool.false_and]; decide)]; exact ⟨rfl, rfl⟩, hr, hL⟩
theorem WitnessR_ct (A : Option Addr) (p : List Pt) (n c : Nat) (a b d : Int) (w : World) (hp : Rd enc 2 w A p) (hn : n = p.length) (hlen : p.length ≤ 1000000) :
    Ct P 31 #[.slice A n c, gdv a b d] w [] (fun r L => ∃ v e, WitS p (a, b, d) v e ∧ r = .tuple #[vc v, int e] ∧ L = []) := by
  rcases Bool.eq_false_or_eq_true (blankF p && goodG (a, b, d)) with hb | hb
  · have hb2 := hb
    simp only [Bool.and_eq_true] at hb2
    refine (WitnessR_ok A p n c a b d w hp hn hlen hb2.1 hb2.2).mono ?_
    rintro r L ⟨v, e, h, hr, hL⟩
    exact ⟨v, e, by rw [WitS, if_pos hb]; exact h, hr, hL⟩
  · refine (WitnessR_no A p n c a b d w hp hn hlen hb).mono ?_
    rintro r L ⟨hr, hL⟩
    exact ⟨(0, 0), 2, by rw [WitS, if_neg (by rw [hb]; decide)]; exact ⟨rfl, rfl⟩, hr, hL⟩

theorem Grids_far (A : Option Addr) (p : List Pt) (n c : Nat) (x y z : Int) (w : World) (hn : n = p.length) (h60 : ¬ p.length ≤ 60) :
    Ct P 10 #[.slice A n c, gdv x y z] w [] (fun r L => r = .bool true ∧ L = []) := by
  subst hn
  refine Ct.of_body (rs := [.tmp 4]) (N := 67) (L := []) Try.func10 rfl rfl rfl (by kernel_rfl) rfl (Mem.refl w) ?_
  refine HW.seq (HW.region [(0, .ef), (1, .st)] rfl rfl ?_)
  refine Plan.boxA rfl rfl rfl fun b3 => ?_
  refine Plan.assign (v := .bool _) rfl rfl rfl ?_
  refine Plan.done ?_
  refine HW.seq ?_
  refine HW.seq (HW.region [(0, .st), (1, .ef), (2, .st)] rfl rfl ?_)
  refine Plan.move (v := .slice _ _ _) rfl rfl rfl ?_
  refine Plan.callF [] 0 rfl rfl rfl (.inl rfl) (by simp) (fun w hm => few_ct A p _ c w rfl) ?_   -- tinplate/tinplatelaw04.few
  rintro v Ln ⟨rfl, rfl⟩
  refine Plan.splitB (fun h13 => ?_) (fun h13 => ?_)
  · skip
    exact absurd (of_decide_eq_true h13) h60
  · skip
    refine Plan.not rfl rfl rfl ?_
    refine Plan.done ?_
    refine HW.cond_true rfl ?_
    refine HW.seq (HW.region [(0, .ef), (1, .st)] rfl rfl ?_)
    refine Plan.callF [] 0 rfl rfl rfl (.inl rfl) (by simp) (fun w hm => alive_ct w) ?_   -- tinplate/tinplatelaw04.alive
    rintro v Ln ⟨rfl, rfl⟩
    refine Plan.splitB (fun h15 => ?_) (fun h15 => ?_)
    · skip
      refine Plan.assign (v := .bool _) rfl rfl rfl ?_
      refine Plan.done ?_
      exact HW.ret ⟨rfl, _, [], .tmp rfl .nil, List.nil_sublist _, rfl, rfl⟩
    · skip
      exact absurd h15 (by decide)

set_option maxRecDepth 100000 in
set_option maxHeartbeats 1000000 in
theorem Grids_ok (A : Option Addr) (p : List Pt) (n c : Nat) (x y z : Int) (w : World) (hp : Rd enc 2 w A p) (hn : n = p.length) (h60 : p.length ≤ 60) :
    Ct P 10 #[.slice A n c, gdv x y z] w [] (fun r L => r = .bool true ∧ L = []) := by
  subst hn
  have undB := undB2
  obtain ⟨⟨ok, er⟩, hF⟩ : ∃ q, AdmissibleF p (x, y, z) = q := ⟨_, rfl⟩
  refine Ct.of_body (rs := [.tmp 4]) (N := 67) (L := []) Try.func10 rfl rfl rfl (by kernel_rfl) rfl (Mem.refl w) ?_
  refine HW.seq (HW.region [(0, .ef), (1, .st)] rfl rfl ?_)
  refine Plan.boxA rfl rfl rfl fun b3 => ?_
  refine Plan.assign (v := .bool _) rfl rfl rfl ?_
  refine Plan.done ?_
  refine HW.seq ?_
  refine HW.seq (HW.region [(0, .st), (1, .ef), (2, .st)] rfl rfl ?_)
  refine Plan.move (v := .slice _ _ _) rfl rfl rfl ?_
  refine Plan.callF [] 0 rfl rfl rfl (.inl rfl) (by simp) (fun w hm => few_ct A p _ c w rfl) ?_   -- tinplate/tinplatelaw04.few
  rintro v Ln ⟨rfl, rfl⟩
  refine Plan.splitB (fun h13 => ?_) (fun h13 => ?_)
  · skip
    refine Plan.not rfl rfl rfl ?_
    refine Plan.done ?_
    refine HW.cond_false rfl ?_
    refine HW.skip ?_
    refine HW.seq (HW.region [(0, .ef), (1, .st), (2, .ef), (3, .st)] rfl rfl ?_)
    refine Plan.buildOwn (xs := ([] : List Pt)) (enc := enc) (sz := 2) rfl rfl rfl (bs0) rfl rfl (by simp) rfl fun b16 => ?_
    refine Plan.move (v := .slice _ _ _) rfl rfl rfl ?_
    refine Plan.appendRd (enc := enc) (sz := 2) (ys := p) (0) rfl rfl hDn slV infV rfl (by decide) enc2 enc1 rfl rfl rfl rfl rfl (fun w hm => hp.mem hm) (by simp; omega) (by simp; omega) fun o18 c18 => ?_
    refine Plan.assign (v := .slice _ _ _) rfl rfl rfl ?_
    refine Plan.done ?_
    refine HW.seq (HW.region [(0, .st), (1, .st), (2, .ef), (3, .st), (4, .st), (5, .st), (6, .st), (7, .st)] rfl rfl ?_)
    refine Plan.move (v := .slice _ _ _) rfl rfl rfl ?_
    refine Plan.loadAll 1 rfl rfl aggGrid sizGrid rfl rfl rfl ?_
    refine Plan.callF [] 0 rfl rfl rfl (.inl rfl) (by simp) (fun w hm => (by have h5 := Admissible_ct (at0 o18) p (0 + p.length) c18 x y z w (Res.own_rd enc2 (hm.res (ownV o18 c18 ([] ++ p)) (by simp))) (by simp) (by omega); rw [hF] at h5; exact h5)) ?_   -- tinplate/blank.Admissible
    rintro v Ln ⟨rfl, rfl⟩
    refine Plan.move (v := .tuple _) rfl rfl rfl ?_
    refine Plan.extract (v := .bool _) rfl rfl rfl rfl ?_
    refine Plan.splitB (fun h23 => ?_) (fun h23 => ?_)
    · skip
      obtain rfl := h23
      refine Plan.extract (v := .int _ _) rfl rfl rfl rfl ?_
      refine Plan.assign (v := .bool _) rfl rfl rfl ?_
      refine Plan.assign (v := .int _ _) rfl rfl rfl ?_
      refine Plan.done ?_
      refine HW.seq (HW.region [(0, .st), (1, .st), (2, .ef), (3, .st), (4, .st), (5, .st), (6, .st), (7, .st)] rfl rfl ?_)
      refine Plan.move (v := .slice _ _ _) rfl rfl rfl ?_
      refine Plan.loadAll 1 rfl rfl aggGrid sizGrid rfl rfl rfl ?_
      refine Plan.callF [] 0 rfl rfl rfl (.inl rfl) (by simp) (fun w hm => (by have h5 := AdmissibleR_ct A p p.length c x y z w (hp.mem hm) rfl (by omega); rw [hF] at h5; exact h5)) ?_   -- tinplate/tinplateref04.Admissible
      rintro v Ln ⟨rfl, rfl⟩
      refine Plan.move (v := .tuple _) rfl rfl rfl ?_
      refine Plan.extract (v := .bool _) rfl rfl rfl rfl ?_
      refine Plan.extract (v := .int _ _) rfl rfl rfl rfl ?_
      refine Plan.assign (v := .bool _) rfl rfl rfl ?_
      refine Plan.assign (v := .int _ _) rfl rfl rfl ?_
      refine Plan.done ?_
      refine HW.seq ?_
      refine HW.seq (HW.region [(0, .st), (1, .st), (2, .st), (3, .st), (4, .st), (5, .st), (6, .st), (7, .st)] rfl rfl ?_)
      refine Plan.move (v := .bool _) rfl rfl rfl ?_
      refine Plan.move (v := .bool _) rfl rfl rfl ?_
      refine Plan.neB rfl rfl undB rfl rfl ?_
      refine Plan.move (v := .bool _) rfl rfl rfl ?_
      refine Plan.move (v := .int _ _) rfl rfl rfl ?_
      refine Plan.move (v := .int _ _) rfl rfl rfl ?_
      refine Plan.cmp2 rfl rfl rfl rfl rfl (fun h37 => ?_) (fun h37 => ?_)
      · replace h37 := ne_of_t h37
        exact absurd rfl h37
      · replace h37 := eq_of_f h37
        refine Plan.pick (v := .bool _) rfl rfl rfl rfl ?_
        refine Plan.done ?_
        refine HW.cond_false rfl ?_
        refine HW.skip ?_
        refine HW.seq (HW.region [(0, .st), (1, .st), (2, .ef), (3, .st), (4, .st), (5, .st), (6, .al), (7, .ef), (8, .st)] rfl rfl ?_)
        refine Plan.move (v := .slice _ _ _) rfl rfl rfl ?_
        refine Plan.loadAll 1 rfl rfl aggGrid sizGrid rfl rfl rfl ?_
        refine Plan.callF [] 0 rfl rfl rfl (.inl rfl) (by simp) (fun w hm => WitnessB_ct (at0 o18) p _ c18 x y z w (Res.own_rd enc2 (hm.res (ownV o18 c18 ([] ++ p)) (by simp))) (by simp) (by omega)) ?_   -- tinplate/blank.Witness
        rintro v Ln ⟨v1, e1, hw1, rfl, rfl⟩
        refine Plan.move (v := .tuple _) rfl rfl rfl ?_
        refine Plan.extract (v := .agg _) rfl rfl rfl rfl ?_
        refine Plan.extract (v := .int _ _) rfl rfl rfl rfl ?_
        refine Plan.alloc rfl zerV fun b10 => ?_
        refine Plan.storeA 0 rfl rfl hDn sizV rfl rfl rfl rfl rfl rfl ?_
        refine Plan.assign (v := .int _ _) rfl rfl rfl ?_
        refine Plan.done ?_
        refine HW.seq (HW.region [(0, .st), (1, .st), (2, .ef), (3, .st), (4, .st), (5, .st), (6, .al), (7, .ef), (8, .st)] rfl rfl ?_)
        refine Plan.move (v := .slice _ _ _) rfl rfl rfl ?_
        refine Plan.loadAll 2 rfl rfl aggGrid sizGrid rfl rfl rfl ?_
        refine Plan.callF [] 0 rfl rfl rfl (.inl rfl) (by simp) (fun w hm => WitnessR_ct A p _ c x y z w (hp.mem hm) rfl (by omega)) ?_   -- tinplate/tinplateref04.Witness
        rintro v Ln ⟨v2, e2, hw2, rfl, rfl⟩
        obtain ⟨rfl, rfl⟩ := hw1.unique hw2
        refine Plan.move (v := .tuple _) rfl rfl rfl ?_
        refine Plan.extract (v := .agg _) rfl rfl rfl rfl ?_
        refine Plan.extract (v := .int _ _) rfl rfl rfl rfl ?_
        refine Plan.alloc rfl zerV fun b11 => ?_
        refine Plan.storeA 0 rfl rfl hDn sizV rfl rfl rfl rfl rfl rfl ?_
        refine Plan.assign (v := .int _ _) rfl rfl rfl ?_
        refine Plan.done ?_
        refine HW.seq (HW.region [(0, .st), (1, .st), (2, .st), (3, .st), (4, .st), (5, .st), (6, .st), (7, .st), (8, .st), (9, .st), (10, .st), (11, .ef), (12, .st), (13, .st), (14, .ef), (15, .st), (16, .st)] rfl rfl ?_)
        refine Plan.loadAll 1 rfl rfl aggV sizV rfl rfl rfl ?_
        refine Plan.loadAll 0 rfl rfl aggV sizV rfl rfl rfl ?_
        refine Plan.eqV v1 v1 rfl rfl rfl rfl rfl (fun h53 => ?_) (fun h53 => ?_)
        · skip
          refine Plan.move (v := .bool _) rfl rfl rfl ?_
          refine Plan.move (v := .int _ _) rfl rfl rfl ?_
          refine Plan.move (v := .int _ _) rfl rfl rfl ?_
          refine Plan.cmp2 rfl rfl rfl rfl rfl (fun h57 => ?_) (fun h57 => ?_)
          · replace h57 := of_decide_eq_true h57
            refine Plan.pick (v := .bool _) rfl rfl rfl rfl ?_
            refine Plan.move (v := .bool _) rfl rfl rfl ?_
            refine Plan.move (v := .slice _ _ _) rfl rfl rfl ?_
            refine Plan.move (v := .slice _ _ _) rfl rfl rfl ?_
            refine Plan.callF [] 0 rfl rfl rfl (.inl rfl) (by simp) (fun w hm => same_ct (at0 o18) A p p _ c18 _ c w (Res.own_rd enc2 (hm.res (ownV o18 c18 ([] ++ p)) (by simp))) (hp.mem hm) (by simp) rfl (by omega) (by omega)) ?_   -- tinplate/tinplatelaw04.same
            rintro v Ln ⟨rfl, rfl⟩
            refine Plan.splitB (fun h62 => ?_) (fun h62 => ?_)
            · skip
              refine Plan.pick (v := .bool _) rfl rfl rfl rfl ?_
              refine Plan.move (v := .bool _) rfl rfl rfl ?_
              refine Plan.callF [] 0 rfl rfl rfl (.inl rfl) (by simp) (fun w hm => alive_ct w) ?_   -- tinplate/tinplatelaw04.alive
              rintro v Ln ⟨rfl, rfl⟩
              refine Plan.splitB (fun h65 => ?_) (fun h65 => ?_)
              · skip
                refine Plan.pick (v := .bool _) rfl rfl rfl rfl ?_
                refine Plan.assign (v := .bool _) rfl rfl rfl ?_
                refine Plan.done ?_
                exact HW.ret ⟨rfl, _, [], .tmp rfl .nil, List.nil_sublist _, rfl, rfl⟩
              · skip
                exact absurd h65 (by decide)
            · skip
              simp at h62
          · replace h57 := of_decide_eq_false h57
            exact absurd rfl h57
        · skip
          exact absurd rfl h53
    · skip
      obtain rfl := h23
      refine Plan.extract (v := .int _ _) rfl rfl rfl rfl ?_
      refine Plan.assign (v := .bool _) rfl rfl rfl ?_
      refine Plan.assign (v := .int _ _) rfl rfl rfl ?_
      refine Plan.done ?_
      refine HW.seq (HW.region [(0, .st), (1, .st), (2, .ef), (3, .st), (4, .st), (5, .st), (6, .st), (7, .st)] rfl rfl ?_)
      refine Plan.move (v := .slice _ _ _) rfl rfl rfl ?_
      refine Plan.loadAll 1 rfl rfl aggGrid sizGrid rfl rfl rfl ?_
      refine Plan.callF [] 0 rfl rfl rfl (.inl rfl) (by simp) (fun w hm => (by have h5 := AdmissibleR_ct A p p.length c x y z w (hp.mem hm) rfl (by omega); rw [hF] at h5; exact h5)) ?_   -- tinplate/tinplateref04.Admissible
      rintro v Ln ⟨rfl, rfl⟩
      refine Plan.move (v := .tuple _) rfl rfl rfl ?_
      refine Plan.extract (v := .bool _) rfl rfl rfl rfl ?_
      refine Plan.extract (v := .int _ _) rfl rfl rfl rfl ?_
      refine Plan.assign (v := .bool _) rfl rfl rfl ?_
      refine Plan.assign (v := .int _ _) rfl rfl rfl ?_
      refine Plan.done ?_
      refine HW.seq ?_
      refine HW.seq (HW.region [(0, .st), (1, .st), (2, .st), (3, .st), (4, .st), (5, .st), (6, .st), (7, .st)] rfl rfl ?_)
      refine Plan.move (v := .bool _) rfl rfl rfl ?_
      refine Plan.move (v := .bool _) rfl rfl rfl ?_
      refine Plan.neB rfl rfl undB rfl rfl ?_
      refine Plan.move (v := .bool _) rfl rfl rfl ?_
      refine Plan.move (v := .int _ _) rfl rfl rfl ?_
      refine Plan.move (v := .int _ _) rfl rfl rfl ?_
      refine Plan.cmp2 rfl rfl rfl rfl rfl (fun h37 => ?_) (fun h37 => ?_)
      · replace h37 := ne_of_t h37
        exact absurd rfl h37
      · replace h37 := eq_of_f h37
        refine Plan.pick (v := .bool _) rfl rfl rfl rfl ?_
        refine Plan.done ?_
        refine HW.cond_false rfl ?_
        refine HW.skip ?_
        refine HW.seq (HW.region [(0, .st), (1, .st), (2, .ef), (3, .st), (4, .st), (5, .st), (6, .al), (7, .ef), (8, .st)] rfl rfl ?_)
        refine Plan.move (v := .slice _ _ _) rfl rfl rfl ?_
        refine Plan.loadAll 1 rfl rfl aggGrid sizGrid rfl rfl rfl ?_
        refine Plan.callF [] 0 rfl rfl rfl (.inl rfl) (by simp) (fun w hm => WitnessB_ct (at0 o18) p _ c18 x y z w (Res.own_rd enc2 (hm.res (ownV o18 c18 ([] ++ p)) (by simp))) (by simp) (by omega)) ?_   -- tinplate/blank.Witness
        rintro v Ln ⟨v1, e1, hw1, rfl, rfl⟩
        refine Plan.move (v := .tuple _) rfl rfl rfl ?_
        refine Plan.extract (v := .agg _) rfl rfl rfl rfl ?_
        refine Plan.extract (v := .int _ _) rfl rfl rfl rfl ?_
        refine Plan.alloc rfl zerV fun b10 => ?_
        refine Plan.storeA 0 rfl rfl hDn sizV rfl rfl rfl rfl rfl rfl ?_
        refine Plan.assign (v := .int _ _) rfl rfl rfl ?_
        refine Plan.done ?_
        refine HW.seq (HW.region [(0, .st), (1, .st), (2, .ef), (3, .st), (4, .st), (5, .st), (6, .al), (7, .ef), (8, .st)] rfl rfl ?_)
        refine Plan.move (v := .slice _ _ _) rfl rfl rfl ?_
        refine Plan.loadAll 2 rfl rfl aggGrid sizGrid rfl rfl rfl ?_
        refine Plan.callF [] 0 rfl rfl rfl (.inl rfl) (by simp) (fun w hm => WitnessR_ct A p _ c x y z w (hp.mem hm) rfl (by omega)) ?_   -- tinplate/tinplateref04.Witness
        rintro v Ln ⟨v2, e2, hw2, rfl, rfl⟩
        obtain ⟨rfl, rfl⟩ := hw1.unique hw2
        refine Plan.move (v := .tuple _) rfl rfl rfl ?_
        refine Plan.extract (v := .agg _) rfl rfl rfl rfl ?_
        refine Plan.extract (v := .int _ _) rfl rfl rfl rfl ?_
        refine Plan.alloc rfl zerV fun b11 => ?_
        refine Plan.storeA 0 rfl rfl hDn sizV rfl rfl rfl rfl rfl rfl ?_
        refine Plan.assign (v := .int _ _) rfl rfl rfl ?_
        refine Plan.done ?_
        refine HW.seq (HW.region [(0, .st), (1, .st), (2, .st), (3, .st), (4, .st), (5, .st), (6, .st), (7, .st), (8, .st), (9, .st), (10, .st), (11, .ef), (12, .st), (13, .st), (14, .ef), (15, .st), (16, .st)] rfl rfl ?_)
        refine Plan.loadAll 1 rfl rfl aggV sizV rfl rfl rfl ?_
        refine Plan.loadAll 0 rfl rfl aggV sizV rfl rfl rfl ?_
        refine Plan.eqV v1 v1 rfl rfl rfl rfl rfl (fun h53 => ?_) (fun h53 => ?_)
        · skip
          refine Plan.move (v := .bool _) rfl rfl rfl ?_
          refine Plan.move (v := .int _ _) rfl rfl rfl ?_
          refine Plan.move (v := .int _ _) rfl rfl rfl ?_
          refine Plan.cmp2 rfl rfl rfl rfl rfl (fun h57 => ?_) (fun h57 => ?_)
          · replace h57 := of_decide_eq_true h57
            refine Plan.pick (v := .bool _) rfl rfl rfl rfl ?_
            refine Plan.move (v := .bool _) rfl rfl rfl ?_
            refine Plan.move (v := .slice _ _ _) rfl rfl rfl ?_
            refine Plan.move (v := .slice _ _ _) rfl rfl rfl ?_
            refine Plan.callF [] 0 rfl rfl rfl (.inl rfl) (by simp) (fun w hm => same_ct (at0 o18) A p p _ c18 _ c w (Res.own_rd enc2 (hm.res (ownV o18 c18 ([] ++ p)) (by simp))) (hp.mem hm) (by simp) rfl (by omega) (by omega)) ?_   -- tinplate/tinplatelaw04.same
            rintro v Ln ⟨rfl, rfl⟩
            refine Plan.splitB (fun h62 => ?_) (fun h62 => ?_)
            · skip
              refine Plan.pick (v := .bool _) rfl rfl rfl rfl ?_
              refine Plan.move (v := .bool _) rfl rfl rfl ?_
              refine Plan.callF [] 0 rfl rfl rfl (.inl rfl) (by simp) (fun w hm => alive_ct w) ?_   -- tinplate/tinplatelaw04.alive
              rintro v Ln ⟨rfl, rfl⟩
              refine Plan.splitB (fun h65 => ?_) (fun h65 => ?_)
              · skip
                refine Plan.pick (v := .bool _) rfl rfl rfl rfl ?_
                refine Plan.assign (v := .bool _) rfl rfl rfl ?_
                refine Plan.done ?_
                exact HW.ret ⟨rfl, _, [], .tmp rfl .nil, List.nil_sublist _, rfl, rfl⟩
              · skip
                exact absurd h65 (by decide)
            · skip
              simp at h62
          · replace h57 := of_decide_eq_false h57
            exact absurd rfl h57
        · skip
          exact absurd rfl h53
  · skip
    exact absurd h60 (of_decide_eq_false h13)

theorem blankGrids_ct (A : Option Addr) (p : List Pt) (x y z : Int) (n c : Nat) (w : World) (hp : Rd enc 2 w A p) (hn : n = p.length) :
    Ct P 10 #[.slice A n c, gdv x y z] w [] (fun r L => r = .bool true ∧ L = []) := by
  by_cases h60 : p.length ≤ 60
  · exact Grids_ok A p n c x y z w hp hn h60
  · exact Grids_far A p n c x y z w hn h60

end Go.Proofs.Ytjmklbkcpjmcaaa.V
