/-
  BlankWitness, its contract.
-/
import Derived.Test.YtjmklbkcpjmcaaaBn
import Derived.Test.YtjmklbkcpjmcaaaO2
namespace Go.Proofs.Ytjmklbkcpjmcaaa.V
open Go Go.RowKit Go.Proofs.Ytjmklbkcpjmcaaa.H Go.Proofs.Ytjmklbkcpjmcaaa.LL
set_option linter.unusedVariables false
set_option linter.unusedSimpArgs false

theorem Wits_far (A : Option Addr) (p : List Pt) (n c : Nat) (x y z : Int) (u t : Pt) (w : World) (hn : n = p.length) (h60 : ¬ p.length ≤ 60) :
    Ct P 11 #[.slice A n c, gdv x y z, vc u, vc t] w [] (fun r L => r = .bool true ∧ L = []) := by
  subst hn
  have undB := undB2
  refine Ct.of_body (rs := [.tmp 8]) (N := 188) (L := []) Try.func11 rfl rfl rfl (by kernel_rfl) rfl (Mem.refl w) ?_
  refine HW.seq (HW.region [(0, .ef), (1, .ef), (2, .ef), (3, .st)] rfl rfl ?_)
  refine Plan.boxA rfl rfl rfl fun b5 => ?_
  refine Plan.boxA rfl rfl rfl fun b6 => ?_
  refine Plan.boxA rfl rfl rfl fun b7 => ?_
  refine Plan.assign (v := .bool _) rfl rfl rfl ?_
  refine Plan.done ?_
  refine HW.seq ?_
  refine HW.seq (HW.region [(0, .st), (1, .ef), (2, .st)] rfl rfl ?_)
  refine Plan.move (v := .slice _ _ _) rfl rfl rfl ?_
  refine Plan.callF [] 0 rfl rfl rfl (.inl rfl) (by simp) (fun w hm => few_ct A p _ c w rfl) ?_   -- tinplate/tinplatelaw04.few
  rintro v Ln ⟨rfl, rfl⟩
  refine Plan.splitB (fun h25 => ?_) (fun h25 => ?_)
  · skip
    exact absurd (of_decide_eq_true h25) h60
  · skip
    refine Plan.not rfl rfl rfl ?_
    refine Plan.done ?_
    refine HW.cond_true rfl ?_
    refine HW.seq (HW.region [(0, .ef), (1, .st)] rfl rfl ?_)
    refine Plan.callF [] 0 rfl rfl rfl (.inl rfl) (by simp) (fun w hm => alive_ct w) ?_   -- tinplate/tinplatelaw04.alive
    rintro v Ln ⟨rfl, rfl⟩
    refine Plan.splitB (fun h27 => ?_) (fun h27 => ?_)
    · skip
      refine Plan.assign (v := .bool _) rfl rfl rfl ?_
      refine Plan.done ?_
      exact HW.ret ⟨rfl, _, [], .tmp rfl .nil, List.nil_sublist _, rfl, rfl⟩
    · skip
      exact absurd h27 (by decide)

theorem Wits_no (A : Option Addr) (p : List Pt) (n c : Nat) (x y z : Int) (u t : Pt) (w : World) (hp : Rd enc 2 w A p) (hn : n = p.length) (h60 : p.length ≤ 60) (hb : (blankF p && goodG (x, y, z)) = false) :
    Ct P 11 #[.slice A n c, gdv x y z, vc u, vc t] w [] (fun r L => r = .bool true ∧ L = []) := by
  subst hn
  have undB := undB2
  have hF : AdmissibleF p (x, y, z) = (false, 2) := by rw [AdmissibleF, if_neg (by rw [hb]; decide)]
  refine Ct.of_body (rs := [.tmp 8]) (N := 188) (L := []) Try.func11 rfl rfl rfl (by kernel_rfl) rfl (Mem.refl w) ?_
  refine HW.seq (HW.region [(0, .ef), (1, .ef), (2, .ef), (3, .st)] rfl rfl ?_)
  refine Plan.boxA rfl rfl rfl fun b5 => ?_
  refine Plan.boxA rfl rfl rfl fun b6 => ?_
  refine Plan.boxA rfl rfl rfl fun b7 => ?_
  refine Plan.assign (v := .bool _) rfl rfl rfl ?_
  refine Plan.done ?_
  refine HW.seq ?_
  refine HW.seq (HW.region [(0, .st), (1, .ef), (2, .st)] rfl rfl ?_)
  refine Plan.move (v := .slice _ _ _) rfl rfl rfl ?_
  refine Plan.callF [] 0 rfl rfl rfl (.inl rfl) (by simp) (fun w hm => few_ct A p _ c w rfl) ?_   -- tinplate/tinplatelaw04.few
  rintro v Ln ⟨rfl, rfl⟩
  refine Plan.splitB (fun h25 => ?_) (fun h25 => ?_)
  · skip
    refine Plan.not rfl rfl rfl ?_
    refine Plan.done ?_
    refine HW.cond_false rfl ?_
    refine HW.skip ?_
    refine HW.seq (HW.region [(0, .st), (1, .st), (2, .ef), (3, .st), (4, .st), (5, .st), (6, .st), (7, .st)] rfl rfl ?_)
    refine Plan.move (v := .slice _ _ _) rfl rfl rfl ?_
    refine Plan.loadAll 2 rfl rfl aggGrid sizGrid rfl rfl rfl ?_
    refine Plan.callF [] 0 rfl rfl rfl (.inl rfl) (by simp) (fun w hm => (by have h5 := Admissible_ct A p p.length c x y z w (hp.mem hm) rfl (by omega); rw [hF] at h5; exact h5)) ?_   -- tinplate/blank.Admissible
    rintro v Ln ⟨rfl, rfl⟩
    refine Plan.move (v := .tuple _) rfl rfl rfl ?_
    refine Plan.extract (v := .bool _) rfl rfl rfl rfl ?_
    refine Plan.extract (v := .int _ _) rfl rfl rfl rfl ?_
    refine Plan.assign (v := .bool _) rfl rfl rfl ?_
    refine Plan.assign (v := .int _ _) rfl rfl rfl ?_
    refine Plan.done ?_
    refine HW.seq (HW.region [(0, .st), (1, .st), (2, .ef), (3, .st), (4, .st), (5, .st), (6, .al), (7, .ef), (8, .st)] rfl rfl ?_)
    refine Plan.move (v := .slice _ _ _) rfl rfl rfl ?_
    refine Plan.loadAll 2 rfl rfl aggGrid sizGrid rfl rfl rfl ?_
    refine Plan.callF [] 0 rfl rfl rfl (.inl rfl) (by simp) (fun w hm => WitnessB_ct A p _ c x y z w (hp.mem hm) rfl (by omega)) ?_   -- tinplate/blank.Witness
    rintro v Ln ⟨v, e, hw, rfl, rfl⟩
    rw [WitS, if_neg (by rw [hb]; decide)] at hw
    obtain ⟨rfl, rfl⟩ := hw
    refine Plan.move (v := .tuple _) rfl rfl rfl ?_
    refine Plan.extract (v := .agg _) rfl rfl rfl rfl ?_
    refine Plan.extract (v := .int _ _) rfl rfl rfl rfl ?_
    refine Plan.alloc rfl zerV fun b11 => ?_
    refine Plan.storeA 0 rfl rfl hDn sizV rfl rfl rfl rfl rfl rfl ?_
    refine Plan.assign (v := .int _ _) rfl rfl rfl ?_
    refine Plan.done ?_
    refine HW.seq ?_
    refine HW.seq (HW.region [(0, .st), (1, .st)] rfl rfl ?_)
    refine Plan.move (v := .int _ _) rfl rfl rfl ?_
    refine Plan.cmp2 rfl rfl rfl rfl rfl (fun h41 => ?_) (fun h41 => ?_)
    · replace h41 := ne_of_t h41
      refine Plan.done ?_
      refine HW.cond_true rfl ?_
      refine HW.seq (HW.region [(0, .st), (1, .st), (2, .st), (3, .st), (4, .ef), (5, .st), (6, .st)] rfl rfl ?_)
      refine Plan.move (v := .int _ _) rfl rfl rfl ?_
      refine Plan.move (v := .int _ _) rfl rfl rfl ?_
      refine Plan.cmp2 rfl rfl rfl rfl rfl (fun h44 => ?_) (fun h44 => ?_)
      · replace h44 := of_decide_eq_true h44
        refine Plan.move (v := .bool _) rfl rfl rfl ?_
        refine Plan.callF [] 0 rfl rfl rfl (.inl rfl) (by simp) (fun w hm => alive_ct w) ?_   -- tinplate/tinplatelaw04.alive
        rintro v Ln ⟨rfl, rfl⟩
        refine Plan.splitB (fun h46 => ?_) (fun h46 => ?_)
        · skip
          refine Plan.pick (v := .bool _) rfl rfl rfl rfl ?_
          refine Plan.assign (v := .bool _) rfl rfl rfl ?_
          refine Plan.done ?_
          exact HW.ret ⟨rfl, _, [], .tmp rfl .nil, List.nil_sublist _, rfl, rfl⟩
        · skip
          exact absurd h46 (by decide)
      · replace h44 := of_decide_eq_false h44
        exact absurd rfl h44
    · replace h41 := eq_of_f h41
      exact absurd h41 (by decide)
  · skip
    exact absurd h60 (of_decide_eq_false h25)

set_option maxRecDepth 100000 in
set_option maxHeartbeats 2000000 in
theorem Wits_no2 (A : Option Addr) (p : List Pt) (n c : Nat) (x y z : Int) (u t : Pt) (w : World) (hp : Rd enc 2 w A p) (hn : n = p.length) (h60 : p.length ≤ 60) (hb : blankF p = true) (hg : goodG (x, y, z) = true) (hadm : admB p (x, y, z) = true)
    (hout : u.1 < -900 ∨ 900 < u.1 ∨ u.2 < -900 ∨ 900 < u.2 ∨ t.1 < -900 ∨ 900 < t.1 ∨ t.2 < -900 ∨ 900 < t.2) :
    Ct P 11 #[.slice A n c, gdv x y z, vc u, vc t] w [] (fun r L => r = .bool true ∧ L = []) := by
  subst hn
  have undB := undB2
  refine Ct.of_body (rs := [.tmp 8]) (N := 188) (L := []) Try.func11 rfl rfl rfl (by kernel_rfl) rfl (Mem.refl w) ?_
  refine HW.seq (HW.region [(0, .ef), (1, .ef), (2, .ef), (3, .st)] rfl rfl ?_)
  refine Plan.boxA rfl rfl rfl fun b5 => ?_
  refine Plan.boxA rfl rfl rfl fun b6 => ?_
  refine Plan.boxA rfl rfl rfl fun b7 => ?_
  refine Plan.assign (v := .bool _) rfl rfl rfl ?_
  refine Plan.done ?_
  refine HW.seq ?_
  refine HW.seq (HW.region [(0, .st), (1, .ef), (2, .st)] rfl rfl ?_)
  refine Plan.move (v := .slice _ _ _) rfl rfl rfl ?_
  refine Plan.callF [] 0 rfl rfl rfl (.inl rfl) (by simp) (fun w hm => few_ct A p _ c w rfl) ?_   -- tinplate/tinplatelaw04.few
  rintro v Ln ⟨rfl, rfl⟩
  refine Plan.splitB (fun h25 => ?_) (fun h25 => ?_)
  · skip
    refine Plan.not rfl rfl rfl ?_
    refine Plan.done ?_
    refine HW.cond_false rfl ?_
    refine HW.skip ?_
    refine HW.seq (HW.region [(0, .st), (1, .st), (2, .ef), (3, .st), (4, .st), (5, .st), (6, .st), (7, .st)] rfl rfl ?_)
    refine Plan.move (v := .slice _ _ _) rfl rfl rfl ?_
    refine Plan.loadAll 2 rfl rfl aggGrid sizGrid rfl rfl rfl ?_
    refine Plan.callF [] 0 rfl rfl rfl (.inl rfl) (by simp) (fun w hm => (by have h5 := Admissible_ok A p p.length c x y z w (hp.mem hm) rfl (by omega) hb hg; rw [hadm] at h5; exact h5)) ?_   -- tinplate/blank.Admissible
    rintro v Ln ⟨rfl, rfl⟩
    refine Plan.move (v := .tuple _) rfl rfl rfl ?_
    refine Plan.extract (v := .bool _) rfl rfl rfl rfl ?_
    refine Plan.extract (v := .int _ _) rfl rfl rfl rfl ?_
    refine Plan.assign (v := .bool _) rfl rfl rfl ?_
    refine Plan.assign (v := .int _ _) rfl rfl rfl ?_
    refine Plan.done ?_
    refine HW.seq (HW.region [(0, .st), (1, .st), (2, .ef), (3, .st), (4, .st), (5, .st), (6, .al), (7, .ef), (8, .st)] rfl rfl ?_)
    refine Plan.move (v := .slice _ _ _) rfl rfl rfl ?_
    refine Plan.loadAll 2 rfl rfl aggGrid sizGrid rfl rfl rfl ?_
    refine Plan.callF [] 0 rfl rfl rfl (.inl rfl) (by simp) (fun w hm => WitnessB_ok A p _ c x y z w (hp.mem hm) rfl (by omega) hb hg) ?_   -- tinplate/blank.Witness
    rintro v Ln ⟨v, e, hw, rfl, rfl⟩
    have hw2 : e = 10 ∧ v = (0, 0) := by
      rcases hw with ⟨h1, h2, _⟩ | ⟨_, ⟨h1, h2⟩, _⟩
      · exact ⟨h1, h2⟩
      · rw [admB, List.any_eq_true.2 ⟨v, h1, h2⟩] at hadm; cases hadm
    obtain ⟨rfl, rfl⟩ := hw2
    refine Plan.move (v := .tuple _) rfl rfl rfl ?_
    refine Plan.extract (v := .agg _) rfl rfl rfl rfl ?_
    refine Plan.extract (v := .int _ _) rfl rfl rfl rfl ?_
    refine Plan.alloc rfl zerV fun b11 => ?_
    refine Plan.storeA 0 rfl rfl hDn sizV rfl rfl rfl rfl rfl rfl ?_
    refine Plan.assign (v := .int _ _) rfl rfl rfl ?_
    refine Plan.done ?_
    refine HW.seq ?_
    refine HW.seq (HW.region [(0, .st), (1, .st)] rfl rfl ?_)
    refine Plan.move (v := .int _ _) rfl rfl rfl ?_
    refine Plan.cmp2 rfl rfl rfl rfl rfl (fun h41 => ?_) (fun h41 => ?_)
    · replace h41 := ne_of_t h41
      exact absurd rfl h41
    · replace h41 := eq_of_f h41
      refine Plan.done ?_
      refine HW.cond_false rfl ?_
      refine HW.skip ?_
      refine HW.seq ?_
      refine HW.seq (HW.region [(0, .st), (1, .st), (2, .st), (3, .st), (4, .st), (5, .st), (6, .st), (7, .st), (8, .st), (9, .st), (10, .st), (11, .st)] rfl rfl ?_)
      refine Plan.move (v := .bool _) rfl rfl rfl ?_
      refine Plan.move (v := .int _ _) rfl rfl rfl ?_
      refine Plan.cmp2 rfl rfl rfl rfl rfl (fun h50 => ?_) (fun h50 => ?_)
      · replace h50 := of_decide_eq_true h50
        refine Plan.neB rfl rfl undB rfl rfl ?_
        refine Plan.move (v := .bool _) rfl rfl rfl ?_
        refine Plan.move (v := .int _ _) rfl rfl rfl ?_
        refine Plan.cmp2 rfl rfl rfl rfl rfl (fun h54 => ?_) (fun h54 => ?_)
        · replace h54 := ne_of_t h54
          refine Plan.move (v := .bool _) rfl rfl rfl ?_
          refine Plan.move (v := .int _ _) rfl rfl rfl ?_
          refine Plan.cmp2 rfl rfl rfl rfl rfl (fun h57 => ?_) (fun h57 => ?_)
          · replace h57 := ne_of_t h57
            exact absurd rfl h57
          · replace h57 := eq_of_f h57
            refine Plan.pick (v := .bool _) rfl rfl rfl rfl ?_
            refine Plan.pick (v := .bool _) rfl rfl rfl rfl ?_
            refine Plan.done ?_
            refine HW.cond_false rfl ?_
            refine HW.skip ?_
            refine HW.seq ?_
            refine HW.seq (HW.region [(0, .st), (1, .st)] rfl rfl ?_)
            refine Plan.move (v := .int _ _) rfl rfl rfl ?_
            refine Plan.cmp2 rfl rfl rfl rfl rfl (fun h61 => ?_) (fun h61 => ?_)
            · replace h61 := of_decide_eq_true h61
              exact absurd h61 (by decide)
            · replace h61 := of_decide_eq_false h61
              refine Plan.done ?_
              refine HW.cond_false rfl ?_
              refine HW.skip ?_
              refine HW.seq ?_
              refine HW.seq (HW.region [(0, .st), (1, .st), (2, .st), (3, .st), (4, .st), (5, .st), (6, .st), (7, .st), (8, .st), (9, .st), (10, .st), (11, .st), (12, .st), (13, .st), (14, .st), (15, .st), (16, .st), (17, .st), (18, .st), (19, .st), (20, .st), (21, .st), (22, .st), (23, .st), (24, .st), (25, .st), (26, .st), (27, .st), (28, .st), (29, .st), (30, .st), (31, .st), (32, .st), (33, .st), (34, .st), (35, .st), (36, .st), (37, .st)] rfl rfl ?_)
              refine Plan.fieldAddr rfl rfl fldV0 rfl ?_
              refine Plan.load (v := .int _ _) rfl rfl aggI rfl (Sees.one 2 rfl rfl) ?_
              refine Plan.cmp2 rfl rfl rfl rfl rfl (fun h97 => ?_) (fun h97 => ?_)
              · replace h97 := of_decide_eq_true h97
                refine Plan.move (v := .bool _) rfl rfl rfl ?_
                refine Plan.no rfl rfl ?_
                refine Plan.no rfl rfl ?_
                refine Plan.no rfl rfl ?_
                refine Plan.pick (v := .bool _) rfl rfl rfl rfl ?_
                refine Plan.move (v := .bool _) rfl rfl rfl ?_
                refine Plan.no rfl rfl ?_
                refine Plan.no rfl rfl ?_
                refine Plan.no rfl rfl ?_
                refine Plan.pick (v := .bool _) rfl rfl rfl rfl ?_
                refine Plan.move (v := .bool _) rfl rfl rfl ?_
                refine Plan.no rfl rfl ?_
                refine Plan.no rfl rfl ?_
                refine Plan.no rfl rfl ?_
                refine Plan.pick (v := .bool _) rfl rfl rfl rfl ?_
                refine Plan.move (v := .bool _) rfl rfl rfl ?_
                refine Plan.no rfl rfl ?_
                refine Plan.no rfl rfl ?_
                refine Plan.no rfl rfl ?_
                refine Plan.pick (v := .bool _) rfl rfl rfl rfl ?_
                refine Plan.move (v := .bool _) rfl rfl rfl ?_
                refine Plan.no rfl rfl ?_
                refine Plan.no rfl rfl ?_
                refine Plan.no rfl rfl ?_
                refine Plan.pick (v := .bool _) rfl rfl rfl rfl ?_
                refine Plan.move (v := .bool _) rfl rfl rfl ?_
                refine Plan.no rfl rfl ?_
                refine Plan.no rfl rfl ?_
                refine Plan.no rfl rfl ?_
                refine Plan.pick (v := .bool _) rfl rfl rfl rfl ?_
                refine Plan.move (v := .bool _) rfl rfl rfl ?_
                refine Plan.no rfl rfl ?_
                refine Plan.no rfl rfl ?_
                refine Plan.no rfl rfl ?_
                refine Plan.pick (v := .bool _) rfl rfl rfl rfl ?_
                refine Plan.done ?_
                refine HW.cond_true rfl ?_
                refine HW.seq (HW.region [(0, .ef), (1, .st)] rfl rfl ?_)
                refine Plan.callF [] 0 rfl rfl rfl (.inl rfl) (by simp) (fun w hm => alive_ct w) ?_   -- tinplate/tinplatelaw04.alive
                rintro v Ln ⟨rfl, rfl⟩
                refine Plan.splitB (fun h133 => ?_) (fun h133 => ?_)
                · skip
                  refine Plan.assign (v := .bool _) rfl rfl rfl ?_
                  refine Plan.done ?_
                  exact HW.ret ⟨rfl, _, [], .tmp rfl .nil, List.nil_sublist _, rfl, rfl⟩
                · skip
                  exact absurd h133 (by decide)
              · replace h97 := of_decide_eq_false h97
                refine Plan.move (v := .bool _) rfl rfl rfl ?_
                refine Plan.fieldAddr rfl rfl fldV0 rfl ?_
                refine Plan.load (v := .int _ _) rfl rfl aggI rfl (Sees.one 2 rfl rfl) ?_
                refine Plan.cmp2 rfl rfl rfl rfl rfl (fun h101 => ?_) (fun h101 => ?_)
                · replace h101 := of_decide_eq_true h101
                  refine Plan.pick (v := .bool _) rfl rfl rfl rfl ?_
                  refine Plan.move (v := .bool _) rfl rfl rfl ?_
                  refine Plan.no rfl rfl ?_
                  refine Plan.no rfl rfl ?_
                  refine Plan.no rfl rfl ?_
                  refine Plan.pick (v := .bool _) rfl rfl rfl rfl ?_
                  refine Plan.move (v := .bool _) rfl rfl rfl ?_
                  refine Plan.no rfl rfl ?_
                  refine Plan.no rfl rfl ?_
                  refine Plan.no rfl rfl ?_
                  refine Plan.pick (v := .bool _) rfl rfl rfl rfl ?_
                  refine Plan.move (v := .bool _) rfl rfl rfl ?_
                  refine Plan.no rfl rfl ?_
                  refine Plan.no rfl rfl ?_
                  refine Plan.no rfl rfl ?_
                  refine Plan.pick (v := .bool _) rfl rfl rfl rfl ?_
                  refine Plan.move (v := .bool _) rfl rfl rfl ?_
                  refine Plan.no rfl rfl ?_
                  refine Plan.no rfl rfl ?_
                  refine Plan.no rfl rfl ?_
                  refine Plan.pick (v := .bool _) rfl rfl rfl rfl ?_
                  refine Plan.move (v := .bool _) rfl rfl rfl ?_
                  refine Plan.no rfl rfl ?_
                  refine Plan.no rfl rfl ?_
                  refine Plan.no rfl rfl ?_
                  refine Plan.pick (v := .bool _) rfl rfl rfl rfl ?_
                  refine Plan.move (v := .bool _) rfl rfl rfl ?_
                  refine Plan.no rfl rfl ?_
                  refine Plan.no rfl rfl ?_
                  refine Plan.no rfl rfl ?_
                  refine Plan.pick (v := .bool _) rfl rfl rfl rfl ?_
                  refine Plan.done ?_
                  refine HW.cond_true rfl ?_
                  refine HW.seq (HW.region [(0, .ef), (1, .st)] rfl rfl ?_)
                  refine Plan.callF [] 0 rfl rfl rfl (.inl rfl) (by simp) (fun w hm => alive_ct w) ?_   -- tinplate/tinplatelaw04.alive
                  rintro v Ln ⟨rfl, rfl⟩
                  refine Plan.splitB (fun h133 => ?_) (fun h133 => ?_)
                  · skip
                    refine Plan.assign (v := .bool _) rfl rfl rfl ?_
                    refine Plan.done ?_
                    exact HW.ret ⟨rfl, _, [], .tmp rfl .nil, List.nil_sublist _, rfl, rfl⟩
                  · skip
                    exact absurd h133 (by decide)
                · replace h101 := of_decide_eq_false h101
                  refine Plan.pick (v := .bool _) rfl rfl rfl rfl ?_
                  refine Plan.move (v := .bool _) rfl rfl rfl ?_
                  refine Plan.fieldAddr rfl rfl fldV1 rfl ?_
                  refine Plan.load (v := .int _ _) rfl rfl aggI rfl (Sees.one 2 rfl rfl) ?_
                  refine Plan.cmp2 rfl rfl rfl rfl rfl (fun h106 => ?_) (fun h106 => ?_)
                  · replace h106 := of_decide_eq_true h106
                    refine Plan.pick (v := .bool _) rfl rfl rfl rfl ?_
                    refine Plan.move (v := .bool _) rfl rfl rfl ?_
                    refine Plan.no rfl rfl ?_
                    refine Plan.no rfl rfl ?_
                    refine Plan.no rfl rfl ?_
                    refine Plan.pick (v := .bool _) rfl rfl rfl rfl ?_
                    refine Plan.move (v := .bool _) rfl rfl rfl ?_
                    refine Plan.no rfl rfl ?_
                    refine Plan.no rfl rfl ?_
                    refine Plan.no rfl rfl ?_
                    refine Plan.pick (v := .bool _) rfl rfl rfl rfl ?_
                    refine Plan.move (v := .bool _) rfl rfl rfl ?_
                    refine Plan.no rfl rfl ?_
                    refine Plan.no rfl rfl ?_
                    refine Plan.no rfl rfl ?_
                    refine Plan.pick (v := .bool _) rfl rfl rfl rfl ?_
                    refine Plan.move (v := .bool _) rfl rfl rfl ?_
                    refine Plan.no rfl rfl ?_
                    refine Plan.no rfl rfl ?_
                    refine Plan.no rfl rfl ?_
                    refine Plan.pick (v := .bool _) rfl rfl rfl rfl ?_
                    refine Plan.move (v := .bool _) rfl rfl rfl ?_
                    refine Plan.no rfl rfl ?_
                    refine Plan.no rfl rfl ?_
                    refine Plan.no rfl rfl ?_
                    refine Plan.pick (v := .bool _) rfl rfl rfl rfl ?_
                    refine Plan.done ?_
                    refine HW.cond_true rfl ?_
                    refine HW.seq (HW.region [(0, .ef), (1, .st)] rfl rfl ?_)
                    refine Plan.callF [] 0 rfl rfl rfl (.inl rfl) (by simp) (fun w hm => alive_ct w) ?_   -- tinplate/tinplatelaw04.alive
                    rintro v Ln ⟨rfl, rfl⟩
                    refine Plan.splitB (fun h133 => ?_) (fun h133 => ?_)
                    · skip
                      refine Plan.assign (v := .bool _) rfl rfl rfl ?_
                      refine Plan.done ?_
                      exact HW.ret ⟨rfl, _, [], .tmp rfl .nil, List.nil_sublist _, rfl, rfl⟩
                    · skip
                      exact absurd h133 (by decide)
                  · replace h106 := of_decide_eq_false h106
                    refine Plan.pick (v := .bool _) rfl rfl rfl rfl ?_
                    refine Plan.move (v := .bool _) rfl rfl rfl ?_
                    refine Plan.fieldAddr rfl rfl fldV1 rfl ?_
                    refine Plan.load (v := .int _ _) rfl rfl aggI rfl (Sees.one 2 rfl rfl) ?_
                    refine Plan.cmp2 rfl rfl rfl rfl rfl (fun h111 => ?_) (fun h111 => ?_)
                    · replace h111 := of_decide_eq_true h111
                      refine Plan.pick (v := .bool _) rfl rfl rfl rfl ?_
                      refine Plan.move (v := .bool _) rfl rfl rfl ?_
                      refine Plan.no rfl rfl ?_
                      refine Plan.no rfl rfl ?_
                      refine Plan.no rfl rfl ?_
                      refine Plan.pick (v := .bool _) rfl rfl rfl rfl ?_
                      refine Plan.move (v := .bool _) rfl rfl rfl ?_
                      refine Plan.no rfl rfl ?_
                      refine Plan.no rfl rfl ?_
                      refine Plan.no rfl rfl ?_
                      refine Plan.pick (v := .bool _) rfl rfl rfl rfl ?_
                      refine Plan.move (v := .bool _) rfl rfl rfl ?_
                      refine Plan.no rfl rfl ?_
                      refine Plan.no rfl rfl ?_
                      refine Plan.no rfl rfl ?_
                      refine Plan.pick (v := .bool _) rfl rfl rfl rfl ?_
                      refine Plan.move (v := .bool _) rfl rfl rfl ?_
                      refine Plan.no rfl rfl ?_
                      refine Plan.no rfl rfl ?_
                      refine Plan.no rfl rfl ?_
                      refine Plan.pick (v := .bool _) rfl rfl rfl rfl ?_
                      refine Plan.done ?_
                      refine HW.cond_true rfl ?_
                      refine HW.seq (HW.region [(0, .ef), (1, .st)] rfl rfl ?_)
                      refine Plan.callF [] 0 rfl rfl rfl (.inl rfl) (by simp) (fun w hm => alive_ct w) ?_   -- tinplate/tinplatelaw04.alive
                      rintro v Ln ⟨rfl, rfl⟩
                      refine Plan.splitB (fun h133 => ?_) (fun h133 => ?_)
                      · skip
                        refine Plan.assign (v := .bool _) rfl rfl rfl ?_
                        refine Plan.done ?_
                        exact HW.ret ⟨rfl, _, [], .tmp rfl .nil, List.nil_sublist _, rfl, rfl⟩
                      · skip
                        exact absurd h133 (by decide)
                    · replace h111 := of_decide_eq_false h111
                      refine Plan.pick (v := .bool _) rfl rfl rfl rfl ?_
                      refine Plan.move (v := .bool _) rfl rfl rfl ?_
                      refine Plan.fieldAddr rfl rfl fldV0 rfl ?_
                      refine Plan.load (v := .int _ _) rfl rfl aggI rfl (Sees.one 1 rfl rfl) ?_
                      refine Plan.cmp2 rfl rfl rfl rfl rfl (fun h116 => ?_) (fun h116 => ?_)
                      · replace h116 := of_decide_eq_true h116
                        refine Plan.pick (v := .bool _) rfl rfl rfl rfl ?_
                        refine Plan.move (v := .bool _) rfl rfl rfl ?_
                        refine Plan.no rfl rfl ?_
                        refine Plan.no rfl rfl ?_
                        refine Plan.no rfl rfl ?_
                        refine Plan.pick (v := .bool _) rfl rfl rfl rfl ?_
                        refine Plan.move (v := .bool _) rfl rfl rfl ?_
                        refine Plan.no rfl rfl ?_
                        refine Plan.no rfl rfl ?_
                        refine Plan.no rfl rfl ?_
                        refine Plan.pick (v := .bool _) rfl rfl rfl rfl ?_
                        refine Plan.move (v := .bool _) rfl rfl rfl ?_
                        refine Plan.no rfl rfl ?_
                        refine Plan.no rfl rfl ?_
                        refine Plan.no rfl rfl ?_
                        refine Plan.pick (v := .bool _) rfl rfl rfl rfl ?_
                        refine Plan.done ?_
                        refine HW.cond_true rfl ?_
                        refine HW.seq (HW.region [(0, .ef), (1, .st)] rfl rfl ?_)
                        refine Plan.callF [] 0 rfl rfl rfl (.inl rfl) (by simp) (fun w hm => alive_ct w) ?_   -- tinplate/tinplatelaw04.alive
                        rintro v Ln ⟨rfl, rfl⟩
                        refine Plan.splitB (fun h133 => ?_) (fun h133 => ?_)
                        · skip
                          refine Plan.assign (v := .bool _) rfl rfl rfl ?_
                          refine Plan.done ?_
                          exact HW.ret ⟨rfl, _, [], .tmp rfl .nil, List.nil_sublist _, rfl, rfl⟩
                        · skip
                          exact absurd h133 (by decide)
                      · replace h116 := of_decide_eq_false h116
                        refine Plan.pick (v := .bool _) rfl rfl rfl rfl ?_
                        refine Plan.move (v := .bool _) rfl rfl rfl ?_
                        refine Plan.fieldAddr rfl rfl fldV0 rfl ?_
                        refine Plan.load (v := .int _ _) rfl rfl aggI rfl (Sees.one 1 rfl rfl) ?_
                        refine Plan.cmp2 rfl rfl rfl rfl rfl (fun h121 => ?_) (fun h121 => ?_)
                        · replace h121 := of_decide_eq_true h121
                          refine Plan.pick (v := .bool _) rfl rfl rfl rfl ?_
                          refine Plan.move (v := .bool _) rfl rfl rfl ?_
                          refine Plan.no rfl rfl ?_
                          refine Plan.no rfl rfl ?_
                          refine Plan.no rfl rfl ?_
                          refine Plan.pick (v := .bool _) rfl rfl rfl rfl ?_
                          refine Plan.move (v := .bool _) rfl rfl rfl ?_
                          refine Plan.no rfl rfl ?_
                          refine Plan.no rfl rfl ?_
                          refine Plan.no rfl rfl ?_
                          refine Plan.pick (v := .bool _) rfl rfl rfl rfl ?_
                          refine Plan.done ?_
                          refine HW.cond_true rfl ?_
                          refine HW.seq (HW.region [(0, .ef), (1, .st)] rfl rfl ?_)
                          refine Plan.callF [] 0 rfl rfl rfl (.inl rfl) (by simp) (fun w hm => alive_ct w) ?_   -- tinplate/tinplatelaw04.alive
                          rintro v Ln ⟨rfl, rfl⟩
                          refine Plan.splitB (fun h133 => ?_) (fun h133 => ?_)
                          · skip
                            refine Plan.assign (v := .bool _) rfl rfl rfl ?_
                            refine Plan.done ?_
                            exact HW.ret ⟨rfl, _, [], .tmp rfl .nil, List.nil_sublist _, rfl, rfl⟩
                          · skip
                            exact absurd h133 (by decide)
                        · replace h121 := of_decide_eq_false h121
                          refine Plan.pick (v := .bool _) rfl rfl rfl rfl ?_
                          refine Plan.move (v := .bool _) rfl rfl rfl ?_
                          refine Plan.fieldAddr rfl rfl fldV1 rfl ?_
                          refine Plan.load (v := .int _ _) rfl rfl aggI rfl (Sees.one 1 rfl rfl) ?_
                          refine Plan.cmp2 rfl rfl rfl rfl rfl (fun h126 => ?_) (fun h126 => ?_)
                          · replace h126 := of_decide_eq_true h126
                            refine Plan.pick (v := .bool _) rfl rfl rfl rfl ?_
                            refine Plan.move (v := .bool _) rfl rfl rfl ?_
                            refine Plan.no rfl rfl ?_
                            refine Plan.no rfl rfl ?_
                            refine Plan.no rfl rfl ?_
                            refine Plan.pick (v := .bool _) rfl rfl rfl rfl ?_
                            refine Plan.done ?_
                            refine HW.cond_true rfl ?_
                            refine HW.seq (HW.region [(0, .ef), (1, .st)] rfl rfl ?_)
                            refine Plan.callF [] 0 rfl rfl rfl (.inl rfl) (by simp) (fun w hm => alive_ct w) ?_   -- tinplate/tinplatelaw04.alive
                            rintro v Ln ⟨rfl, rfl⟩
                            refine Plan.splitB (fun h133 => ?_) (fun h133 => ?_)
                            · skip
                              refine Plan.assign (v := .bool _) rfl rfl rfl ?_
                              refine Plan.done ?_
                              exact HW.ret ⟨rfl, _, [], .tmp rfl .nil, List.nil_sublist _, rfl, rfl⟩
                            · skip
                              exact absurd h133 (by decide)
                          · replace h126 := of_decide_eq_false h126
                            refine Plan.pick (v := .bool _) rfl rfl rfl rfl ?_
                            refine Plan.move (v := .bool _) rfl rfl rfl ?_
                            refine Plan.fieldAddr rfl rfl fldV1 rfl ?_
                            refine Plan.load (v := .int _ _) rfl rfl aggI rfl (Sees.one 1 rfl rfl) ?_
                            refine Plan.cmp2 rfl rfl rfl rfl rfl (fun h131 => ?_) (fun h131 => ?_)
                            · replace h131 := of_decide_eq_true h131
                              refine Plan.pick (v := .bool _) rfl rfl rfl rfl ?_
                              refine Plan.done ?_
                              refine HW.cond_true rfl ?_
                              refine HW.seq (HW.region [(0, .ef), (1, .st)] rfl rfl ?_)
                              refine Plan.callF [] 0 rfl rfl rfl (.inl rfl) (by simp) (fun w hm => alive_ct w) ?_   -- tinplate/tinplatelaw04.alive
                              rintro v Ln ⟨rfl, rfl⟩
                              refine Plan.splitB (fun h133 => ?_) (fun h133 => ?_)
                              · skip
                                refine Plan.assign (v := .bool _) rfl rfl rfl ?_
                                refine Plan.done ?_
                                exact HW.ret ⟨rfl, _, [], .tmp rfl .nil, List.nil_sublist _, rfl, rfl⟩
                              · skip
                                exact absurd h133 (by decide)
                            · replace h131 := of_decide_eq_false h131
                              omega
        · replace h54 := eq_of_f h54
          exact absurd h54 (by decide)
      · replace h50 := of_decide_eq_false h50
        exact absurd rfl h50
  · skip
    exact absurd h60 (of_decide_eq_false h25)

set_option maxRecDepth 100000 in
set_option maxHeartbeats 2000000 in
theorem Wits_nt (A : Option Addr) (p : List Pt) (n c : Nat) (x y z : Int) (u t : Pt) (w : World) (hp : Rd enc 2 w A p) (hn : n = p.length) (h60 : p.length ≤ 60) (hb : blankF p = true) (hg : goodG (x, y, z) = true) (hadm : admB p (x, y, z) = true)
    (hin : -900 ≤ u.1 ∧ u.1 ≤ 900 ∧ -900 ≤ u.2 ∧ u.2 ≤ 900 ∧ -900 ≤ t.1 ∧ t.1 ≤ 900 ∧ -900 ≤ t.2 ∧ t.2 ≤ 900) (hx : (collB p (t.1 - u.1, t.2 - u.2) || decide ((t.1 - u.1, t.2 - u.2) = ((0, 0) : Pt))) = true) :
    Ct P 11 #[.slice A n c, gdv x y z, vc u, vc t] w [] (fun r L => r = .bool true ∧ L = []) := by
  subst hn
  have undB := undB2
  have hub : Bd2 900 u.1 u.2 := ⟨⟨by omega, by omega⟩, ⟨by omega, by omega⟩⟩
  have htb : Bd2 900 t.1 t.2 := ⟨⟨by omega, by omega⟩, ⟨by omega, by omega⟩⟩
  have hmu := (move_blank hb hub).1
  have hmt := (move_blank hb htb).1
  have hpo := pair_over hb hub htb
  rw [hx] at hpo
  refine Ct.of_body (rs := [.tmp 8]) (N := 188) (L := []) Try.func11 rfl rfl rfl (by kernel_rfl) rfl (Mem.refl w) ?_
  refine HW.seq (HW.region [(0, .ef), (1, .ef), (2, .ef), (3, .st)] rfl rfl ?_)
  refine Plan.boxA rfl rfl rfl fun b5 => ?_
  refine Plan.boxA rfl rfl rfl fun b6 => ?_
  refine Plan.boxA rfl rfl rfl fun b7 => ?_
  refine Plan.assign (v := .bool _) rfl rfl rfl ?_
  refine Plan.done ?_
  refine HW.seq ?_
  refine HW.seq (HW.region [(0, .st), (1, .ef), (2, .st)] rfl rfl ?_)
  refine Plan.move (v := .slice _ _ _) rfl rfl rfl ?_
  refine Plan.callF [] 0 rfl rfl rfl (.inl rfl) (by simp) (fun w hm => few_ct A p _ c w rfl) ?_   -- tinplate/tinplatelaw04.few
  rintro v Ln ⟨rfl, rfl⟩
  refine Plan.splitB (fun h25 => ?_) (fun h25 => ?_)
  · skip
    refine Plan.not rfl rfl rfl ?_
    refine Plan.done ?_
    refine HW.cond_false rfl ?_
    refine HW.skip ?_
    refine HW.seq (HW.region [(0, .st), (1, .st), (2, .ef), (3, .st), (4, .st), (5, .st), (6, .st), (7, .st)] rfl rfl ?_)
    refine Plan.move (v := .slice _ _ _) rfl rfl rfl ?_
    refine Plan.loadAll 2 rfl rfl aggGrid sizGrid rfl rfl rfl ?_
    refine Plan.callF [] 0 rfl rfl rfl (.inl rfl) (by simp) (fun w hm => (by have h5 := Admissible_ok A p p.length c x y z w (hp.mem hm) rfl (by omega) hb hg; rw [hadm] at h5; exact h5)) ?_   -- tinplate/blank.Admissible
    rintro v Ln ⟨rfl, rfl⟩
    refine Plan.move (v := .tuple _) rfl rfl rfl ?_
    refine Plan.extract (v := .bool _) rfl rfl rfl rfl ?_
    refine Plan.extract (v := .int _ _) rfl rfl rfl rfl ?_
    refine Plan.assign (v := .bool _) rfl rfl rfl ?_
    refine Plan.assign (v := .int _ _) rfl rfl rfl ?_
    refine Plan.done ?_
    refine HW.seq (HW.region [(0, .st), (1, .st), (2, .ef), (3, .st), (4, .st), (5, .st), (6, .al), (7, .ef), (8, .st)] rfl rfl ?_)
    refine Plan.move (v := .slice _ _ _) rfl rfl rfl ?_
    refine Plan.loadAll 2 rfl rfl aggGrid sizGrid rfl rfl rfl ?_
    refine Plan.callF [] 0 rfl rfl rfl (.inl rfl) (by simp) (fun w hm => WitnessB_ok A p _ c x y z w (hp.mem hm) rfl (by omega) hb hg) ?_   -- tinplate/blank.Witness
    rintro v Ln ⟨v, e, hw, rfl, rfl⟩
    have hw2 : e = 10 ∧ v = (0, 0) := by
      rcases hw with ⟨h1, h2, _⟩ | ⟨_, ⟨h1, h2⟩, _⟩
      · exact ⟨h1, h2⟩
      · rw [admB, List.any_eq_true.2 ⟨v, h1, h2⟩] at hadm; cases hadm
    obtain ⟨rfl, rfl⟩ := hw2
    refine Plan.move (v := .tuple _) rfl rfl rfl ?_
    refine Plan.extract (v := .agg _) rfl rfl rfl rfl ?_
    refine Plan.extract (v := .int _ _) rfl rfl rfl rfl ?_
    refine Plan.alloc rfl zerV fun b11 => ?_
    refine Plan.storeA 0 rfl rfl hDn sizV rfl rfl rfl rfl rfl rfl ?_
    refine Plan.assign (v := .int _ _) rfl rfl rfl ?_
    refine Plan.done ?_
    refine HW.seq ?_
    refine HW.seq (HW.region [(0, .st), (1, .st)] rfl rfl ?_)
    refine Plan.move (v := .int _ _) rfl rfl rfl ?_
    refine Plan.cmp2 rfl rfl rfl rfl rfl (fun h41 => ?_) (fun h41 => ?_)
    · replace h41 := ne_of_t h41
      exact absurd rfl h41
    · replace h41 := eq_of_f h41
      refine Plan.done ?_
      refine HW.cond_false rfl ?_
      refine HW.skip ?_
      refine HW.seq ?_
      refine HW.seq (HW.region [(0, .st), (1, .st), (2, .st), (3, .st), (4, .st), (5, .st), (6, .st), (7, .st), (8, .st), (9, .st), (10, .st), (11, .st)] rfl rfl ?_)
      refine Plan.move (v := .bool _) rfl rfl rfl ?_
      refine Plan.move (v := .int _ _) rfl rfl rfl ?_
      refine Plan.cmp2 rfl rfl rfl rfl rfl (fun h50 => ?_) (fun h50 => ?_)
      · replace h50 := of_decide_eq_true h50
        refine Plan.neB rfl rfl undB rfl rfl ?_
        refine Plan.move (v := .bool _) rfl rfl rfl ?_
        refine Plan.move (v := .int _ _) rfl rfl rfl ?_
        refine Plan.cmp2 rfl rfl rfl rfl rfl (fun h54 => ?_) (fun h54 => ?_)
        · replace h54 := ne_of_t h54
          refine Plan.move (v := .bool _) rfl rfl rfl ?_
          refine Plan.move (v := .int _ _) rfl rfl rfl ?_
          refine Plan.cmp2 rfl rfl rfl rfl rfl (fun h57 => ?_) (fun h57 => ?_)
          · replace h57 := ne_of_t h57
            exact absurd rfl h57
          · replace h57 := eq_of_f h57
            refine Plan.pick (v := .bool _) rfl rfl rfl rfl ?_
            refine Plan.pick (v := .bool _) rfl rfl rfl rfl ?_
            refine Plan.done ?_
            refine HW.cond_false rfl ?_
            refine HW.skip ?_
            refine HW.seq ?_
            refine HW.seq (HW.region [(0, .st), (1, .st)] rfl rfl ?_)
            refine Plan.move (v := .int _ _) rfl rfl rfl ?_
            refine Plan.cmp2 rfl rfl rfl rfl rfl (fun h61 => ?_) (fun h61 => ?_)
            · replace h61 := of_decide_eq_true h61
              exact absurd h61 (by decide)
            · replace h61 := of_decide_eq_false h61
              refine Plan.done ?_
              refine HW.cond_false rfl ?_
              refine HW.skip ?_
              refine HW.seq ?_
              refine HW.seq (HW.region [(0, .st), (1, .st), (2, .st), (3, .st), (4, .st), (5, .st), (6, .st), (7, .st), (8, .st), (9, .st), (10, .st), (11, .st), (12, .st), (13, .st), (14, .st), (15, .st), (16, .st), (17, .st), (18, .st), (19, .st), (20, .st), (21, .st), (22, .st), (23, .st), (24, .st), (25, .st), (26, .st), (27, .st), (28, .st), (29, .st), (30, .st), (31, .st), (32, .st), (33, .st), (34, .st), (35, .st), (36, .st), (37, .st)] rfl rfl ?_)
              refine Plan.fieldAddr rfl rfl fldV0 rfl ?_
              refine Plan.load (v := .int _ _) rfl rfl aggI rfl (Sees.one 2 rfl rfl) ?_
              refine Plan.cmp2 rfl rfl rfl rfl rfl (fun h97 => ?_) (fun h97 => ?_)
              · replace h97 := of_decide_eq_true h97
                omega
              · replace h97 := of_decide_eq_false h97
                refine Plan.move (v := .bool _) rfl rfl rfl ?_
                refine Plan.fieldAddr rfl rfl fldV0 rfl ?_
                refine Plan.load (v := .int _ _) rfl rfl aggI rfl (Sees.one 2 rfl rfl) ?_
                refine Plan.cmp2 rfl rfl rfl rfl rfl (fun h101 => ?_) (fun h101 => ?_)
                · replace h101 := of_decide_eq_true h101
                  omega
                · replace h101 := of_decide_eq_false h101
                  refine Plan.pick (v := .bool _) rfl rfl rfl rfl ?_
                  refine Plan.move (v := .bool _) rfl rfl rfl ?_
                  refine Plan.fieldAddr rfl rfl fldV1 rfl ?_
                  refine Plan.load (v := .int _ _) rfl rfl aggI rfl (Sees.one 2 rfl rfl) ?_
                  refine Plan.cmp2 rfl rfl rfl rfl rfl (fun h106 => ?_) (fun h106 => ?_)
                  · replace h106 := of_decide_eq_true h106
                    omega
                  · replace h106 := of_decide_eq_false h106
                    refine Plan.pick (v := .bool _) rfl rfl rfl rfl ?_
                    refine Plan.move (v := .bool _) rfl rfl rfl ?_
                    refine Plan.fieldAddr rfl rfl fldV1 rfl ?_
                    refine Plan.load (v := .int _ _) rfl rfl aggI rfl (Sees.one 2 rfl rfl) ?_
                    refine Plan.cmp2 rfl rfl rfl rfl rfl (fun h111 => ?_) (fun h111 => ?_)
                    · replace h111 := of_decide_eq_true h111
                      omega
                    · replace h111 := of_decide_eq_false h111
                      refine Plan.pick (v := .bool _) rfl rfl rfl rfl ?_
                      refine Plan.move (v := .bool _) rfl rfl rfl ?_
                      refine Plan.fieldAddr rfl rfl fldV0 rfl ?_
                      refine Plan.load (v := .int _ _) rfl rfl aggI rfl (Sees.one 1 rfl rfl) ?_
                      refine Plan.cmp2 rfl rfl rfl rfl rfl (fun h116 => ?_) (fun h116 => ?_)
                      · replace h116 := of_decide_eq_true h116
                        omega
                      · replace h116 := of_decide_eq_false h116
                        refine Plan.pick (v := .bool _) rfl rfl rfl rfl ?_
                        refine Plan.move (v := .bool _) rfl rfl rfl ?_
                        refine Plan.fieldAddr rfl rfl fldV0 rfl ?_
                        refine Plan.load (v := .int _ _) rfl rfl aggI rfl (Sees.one 1 rfl rfl) ?_
                        refine Plan.cmp2 rfl rfl rfl rfl rfl (fun h121 => ?_) (fun h121 => ?_)
                        · replace h121 := of_decide_eq_true h121
                          omega
                        · replace h121 := of_decide_eq_false h121
                          refine Plan.pick (v := .bool _) rfl rfl rfl rfl ?_
                          refine Plan.move (v := .bool _) rfl rfl rfl ?_
                          refine Plan.fieldAddr rfl rfl fldV1 rfl ?_
                          refine Plan.load (v := .int _ _) rfl rfl aggI rfl (Sees.one 1 rfl rfl) ?_
                          refine Plan.cmp2 rfl rfl rfl rfl rfl (fun h126 => ?_) (fun h126 => ?_)
                          · replace h126 := of_decide_eq_true h126
                            omega
                          · replace h126 := of_decide_eq_false h126
                            refine Plan.pick (v := .bool _) rfl rfl rfl rfl ?_
                            refine Plan.move (v := .bool _) rfl rfl rfl ?_
                            refine Plan.fieldAddr rfl rfl fldV1 rfl ?_
                            refine Plan.load (v := .int _ _) rfl rfl aggI rfl (Sees.one 1 rfl rfl) ?_
                            refine Plan.cmp2 rfl rfl rfl rfl rfl (fun h131 => ?_) (fun h131 => ?_)
                            · replace h131 := of_decide_eq_true h131
                              omega
                            · replace h131 := of_decide_eq_false h131
                              refine Plan.pick (v := .bool _) rfl rfl rfl rfl ?_
                              refine Plan.done ?_
                              refine HW.cond_false rfl ?_
                              refine HW.skip ?_
                              refine HW.seq (HW.region [(0, .st), (1, .st), (2, .ef), (3, .st), (4, .st), (5, .st), (6, .st), (7, .st)] rfl rfl ?_)
                              refine Plan.move (v := .slice _ _ _) rfl rfl rfl ?_
                              refine Plan.loadAll 2 rfl rfl aggV sizV rfl rfl rfl ?_
                              refine Plan.callF [] 0 rfl rfl rfl (.inl rfl) (by simp) (fun w hm => (by have h5 := Move_ct A p u p.length c w (hp.mem hm) rfl (by omega); rw [hmu] at h5; exact h5)) ?_   -- tinplate/convex.Move
                              rintro v Ln ⟨o1, d1, rfl, rfl⟩
                              refine Plan.move (v := .tuple _) rfl rfl rfl ?_
                              refine Plan.extract (v := .slice _ _ _) rfl rfl rfl rfl ?_
                              refine Plan.extract (v := .int _ _) rfl rfl rfl rfl ?_
                              refine Plan.assign (v := .slice _ _ _) rfl rfl rfl ?_
                              refine Plan.assign (v := .int _ _) rfl rfl rfl ?_
                              refine Plan.done ?_
                              refine HW.seq (HW.region [(0, .st), (1, .st), (2, .ef), (3, .st), (4, .st), (5, .st), (6, .st), (7, .st)] rfl rfl ?_)
                              refine Plan.move (v := .slice _ _ _) rfl rfl rfl ?_
                              refine Plan.loadAll 2 rfl rfl aggV sizV rfl rfl rfl ?_
                              refine Plan.callF [] 0 rfl rfl rfl (.inl rfl) (by simp) (fun w hm => (by have h5 := Move_ct A p t p.length c w (hp.mem hm) rfl (by omega); rw [hmt] at h5; exact h5)) ?_   -- tinplate/convex.Move
                              rintro v Ln ⟨o2, d2, rfl, rfl⟩
                              refine Plan.move (v := .tuple _) rfl rfl rfl ?_
                              refine Plan.extract (v := .slice _ _ _) rfl rfl rfl rfl ?_
                              refine Plan.extract (v := .int _ _) rfl rfl rfl rfl ?_
                              refine Plan.assign (v := .slice _ _ _) rfl rfl rfl ?_
                              refine Plan.assign (v := .int _ _) rfl rfl rfl ?_
                              refine Plan.done ?_
                              refine HW.seq (HW.region [(0, .st), (1, .st), (2, .ef), (3, .st), (4, .st), (5, .st), (6, .st), (7, .st)] rfl rfl ?_)
                              refine Plan.move (v := .slice _ _ _) rfl rfl rfl ?_
                              refine Plan.move (v := .slice _ _ _) rfl rfl rfl ?_
                              refine Plan.callF [] 0 rfl rfl rfl (.inl rfl) (by simp) (fun w hm => (by have h5 := Overlap_ct (at0 o1) (at0 o2) (p.map (vAdd u)) (p.map (vAdd t)) (p.map (vAdd u)).length d1 (p.map (vAdd t)).length d2 w (Res.own_rd enc2 (hm.res (ownV o1 d1 (p.map (vAdd u))) (by simp))) (Res.own_rd enc2 (hm.res (ownV o2 d2 (p.map (vAdd t))) (by simp))) rfl rfl (by simp; omega) (by simp; omega); rw [hpo] at h5; exact h5)) ?_   -- tinplate/convex.Overlap
                              rintro v Ln ⟨rfl, rfl⟩
                              refine Plan.move (v := .tuple _) rfl rfl rfl ?_
                              refine Plan.extract (v := .bool _) rfl rfl rfl rfl ?_
                              refine Plan.extract (v := .int _ _) rfl rfl rfl rfl ?_
                              refine Plan.assign (v := .bool _) rfl rfl rfl ?_
                              refine Plan.assign (v := .int _ _) rfl rfl rfl ?_
                              refine Plan.done ?_
                              refine HW.seq (HW.region [(0, .st), (1, .st), (2, .st), (3, .st), (4, .st), (5, .st), (6, .st), (7, .st), (8, .st), (9, .st), (10, .st), (11, .al), (12, .ef)] rfl rfl ?_)
                              refine Plan.fieldAddr rfl rfl fldV0 rfl ?_
                              refine Plan.load (v := .int _ _) rfl rfl aggI rfl (Sees.one 3 rfl rfl) ?_
                              refine Plan.fieldAddr rfl rfl fldV0 rfl ?_
                              refine Plan.load (v := .int _ _) rfl rfl aggI rfl (Sees.one 4 rfl rfl) ?_
                              refine Plan.arithI rfl rfl rfl rfl rfl (by omega) ?_
                              refine Plan.fieldAddr rfl rfl fldV1 rfl ?_
                              refine Plan.load (v := .int _ _) rfl rfl aggI rfl (Sees.one 3 rfl rfl) ?_
                              refine Plan.fieldAddr rfl rfl fldV1 rfl ?_
                              refine Plan.load (v := .int _ _) rfl rfl aggI rfl (Sees.one 4 rfl rfl) ?_
                              refine Plan.arithI rfl rfl rfl rfl rfl (by omega) ?_
                              refine Plan.build rfl rfl rfl (bldV _ _) ?_
                              refine Plan.alloc rfl zerV fun b23 => ?_
                              refine Plan.storeA 0 rfl rfl hDn sizV rfl rfl rfl rfl rfl rfl ?_
                              refine Plan.done ?_
                              refine HW.seq (HW.region [(0, .st), (1, .st), (2, .st), (3, .st), (4, .st), (5, .st), (6, .st), (7, .st), (8, .st), (9, .st), (10, .st), (11, .st), (12, .st), (13, .st), (14, .ef), (15, .st), (16, .st), (17, .st), (18, .st), (19, .st), (20, .st), (21, .st), (22, .st), (23, .ef), (24, .st), (25, .st)] rfl rfl ?_)
                              refine Plan.move (v := .int _ _) rfl rfl rfl ?_
                              refine Plan.cmp2 rfl rfl rfl rfl rfl (fun h164 => ?_) (fun h164 => ?_)
                              · replace h164 := of_decide_eq_true h164
                                refine Plan.move (v := .bool _) rfl rfl rfl ?_
                                refine Plan.move (v := .int _ _) rfl rfl rfl ?_
                                refine Plan.cmp2 rfl rfl rfl rfl rfl (fun h167 => ?_) (fun h167 => ?_)
                                · replace h167 := of_decide_eq_true h167
                                  refine Plan.pick (v := .bool _) rfl rfl rfl rfl ?_
                                  refine Plan.move (v := .bool _) rfl rfl rfl ?_
                                  refine Plan.move (v := .int _ _) rfl rfl rfl ?_
                                  refine Plan.cmp2 rfl rfl rfl rfl rfl (fun h171 => ?_) (fun h171 => ?_)
                                  · replace h171 := of_decide_eq_true h171
                                    refine Plan.pick (v := .bool _) rfl rfl rfl rfl ?_
                                    refine Plan.move (v := .bool _) rfl rfl rfl ?_
                                    refine Plan.move (v := .bool _) rfl rfl rfl ?_
                                    refine Plan.move (v := .slice _ _ _) rfl rfl rfl ?_
                                    refine Plan.loadAll 0 rfl rfl aggV sizV rfl rfl rfl ?_
                                    refine Plan.callF [] 0 rfl rfl rfl (.inl rfl) (by simp) (fun w hm => collide_ct A p (t.1 - u.1, t.2 - u.2) _ c w (hp.mem hm) rfl hb) ?_   -- tinplate/tinplateref04.Collide
                                    rintro v Ln ⟨rfl, rfl⟩
                                    refine Plan.splitB (fun h177 => ?_) (fun h177 => ?_)
                                    · skip
                                      refine Plan.move (v := .bool _) rfl rfl rfl ?_
                                      refine Plan.no rfl rfl ?_
                                      refine Plan.no rfl rfl ?_
                                      refine Plan.no rfl rfl ?_
                                      refine Plan.pick (v := .bool _) rfl rfl rfl rfl ?_
                                      refine Plan.eqB rfl rfl undB rfl rfl ?_
                                      refine Plan.pick (v := .bool _) rfl rfl rfl rfl ?_
                                      refine Plan.move (v := .bool _) rfl rfl rfl ?_
                                      refine Plan.callF [] 0 rfl rfl rfl (.inl rfl) (by simp) (fun w hm => alive_ct w) ?_   -- tinplate/tinplatelaw04.alive
                                      rintro v Ln ⟨rfl, rfl⟩
                                      refine Plan.splitB (fun h186 => ?_) (fun h186 => ?_)
                                      · skip
                                        refine Plan.pick (v := .bool _) rfl rfl rfl rfl ?_
                                        refine Plan.assign (v := .bool _) rfl rfl rfl ?_
                                        refine Plan.done ?_
                                        exact HW.ret ⟨rfl, _, [], .tmp rfl .nil, List.nil_sublist _, rfl, rfl⟩
                                      · skip
                                        exact absurd h186 (by decide)
                                    · skip
                                      refine Plan.move (v := .bool _) rfl rfl rfl ?_
                                      refine Plan.loadAll 0 rfl rfl aggV sizV rfl rfl rfl ?_
                                      refine Plan.build rfl rfl rfl (bld0) ?_
                                      refine Plan.eqV ((t.1 - u.1, t.2 - u.2)) ((0, 0)) rfl rfl rfl rfl rfl (fun h181 => ?_) (fun h181 => ?_)
                                      · skip
                                        refine Plan.pick (v := .bool _) rfl rfl rfl rfl ?_
                                        refine Plan.eqB rfl rfl undB rfl rfl ?_
                                        refine Plan.pick (v := .bool _) rfl rfl rfl rfl ?_
                                        refine Plan.move (v := .bool _) rfl rfl rfl ?_
                                        refine Plan.callF [] 0 rfl rfl rfl (.inl rfl) (by simp) (fun w hm => alive_ct w) ?_   -- tinplate/tinplatelaw04.alive
                                        rintro v Ln ⟨rfl, rfl⟩
                                        refine Plan.splitB (fun h186 => ?_) (fun h186 => ?_)
                                        · skip
                                          refine Plan.pick (v := .bool _) rfl rfl rfl rfl ?_
                                          refine Plan.assign (v := .bool _) rfl rfl rfl ?_
                                          refine Plan.done ?_
                                          exact HW.ret ⟨rfl, _, [], .tmp rfl .nil, List.nil_sublist _, rfl, rfl⟩
                                        · skip
                                          exact absurd h186 (by decide)
                                      · skip
                                        rw [h177, decide_eq_false h181] at hx; cases hx
                                  · replace h171 := of_decide_eq_false h171
                                    exact absurd rfl h171
                                · replace h167 := of_decide_eq_false h167
                                  exact absurd rfl h167
                              · replace h164 := of_decide_eq_false h164
                                exact absurd rfl h164
        · replace h54 := eq_of_f h54
          exact absurd h54 (by decide)
      · replace h50 := of_decide_eq_false h50
        exact absurd rfl h50
  · skip
    exact absurd h60 (of_decide_eq_false h25)

set_option maxRecDepth 100000 in
set_option maxHeartbeats 2000000 in
theorem Wits_nf (A : Option Addr) (p : List Pt) (n c : Nat) (x y z : Int) (u t : Pt) (w : World) (hp : Rd enc 2 w A p) (hn : n = p.length) (h60 : p.length ≤ 60) (hb : blankF p = true) (hg : goodG (x, y, z) = true) (hadm : admB p (x, y, z) = true)
    (hin : -900 ≤ u.1 ∧ u.1 ≤ 900 ∧ -900 ≤ u.2 ∧ u.2 ≤ 900 ∧ -900 ≤ t.1 ∧ t.1 ≤ 900 ∧ -900 ≤ t.2 ∧ t.2 ≤ 900) (hx : (collB p (t.1 - u.1, t.2 - u.2) || decide ((t.1 - u.1, t.2 - u.2) = ((0, 0) : Pt))) = false) :
    Ct P 11 #[.slice A n c, gdv x y z, vc u, vc t] w [] (fun r L => r = .bool true ∧ L = []) := by
  subst hn
  have undB := undB2
  have hub : Bd2 900 u.1 u.2 := ⟨⟨by omega, by omega⟩, ⟨by omega, by omega⟩⟩
  have htb : Bd2 900 t.1 t.2 := ⟨⟨by omega, by omega⟩, ⟨by omega, by omega⟩⟩
  have hmu := (move_blank hb hub).1
  have hmt := (move_blank hb htb).1
  have hpo := pair_over hb hub htb
  rw [hx] at hpo
  refine Ct.of_body (rs := [.tmp 8]) (N := 188) (L := []) Try.func11 rfl rfl rfl (by kernel_rfl) rfl (Mem.refl w) ?_
  refine HW.seq (HW.region [(0, .ef), (1, .ef), (2, .ef), (3, .st)] rfl rfl ?_)
  refine Plan.boxA rfl rfl rfl fun b5 => ?_
  refine Plan.boxA rfl rfl rfl fun b6 => ?_
  refine Plan.boxA rfl rfl rfl fun b7 => ?_
  refine Plan.assign (v := .bool _) rfl rfl rfl ?_
  refine Plan.done ?_
  refine HW.seq ?_
  refine HW.seq (HW.region [(0, .st), (1, .ef), (2, .st)] rfl rfl ?_)
  refine Plan.move (v := .slice _ _ _) rfl rfl rfl ?_
  refine Plan.callF [] 0 rfl rfl rfl (.inl rfl) (by simp) (fun w hm => few_ct A p _ c w rfl) ?_   -- tinplate/tinplatelaw04.few
  rintro v Ln ⟨rfl, rfl⟩
  refine Plan.splitB (fun h25 => ?_) (fun h25 => ?_)
  · skip
    refine Plan.not rfl rfl rfl ?_
    refine Plan.done ?_
    refine HW.cond_false rfl ?_
    refine HW.skip ?_
    refine HW.seq (HW.region [(0, .st), (1, .st), (2, .ef), (3, .st), (4, .st), (5, .st), (6, .st), (7, .st)] rfl rfl ?_)
    refine Plan.move (v := .slice _ _ _) rfl rfl rfl ?_
    refine Plan.loadAll 2 rfl rfl aggGrid sizGrid rfl rfl rfl ?_
    refine Plan.callF [] 0 rfl rfl rfl (.inl rfl) (by simp) (fun w hm => (by have h5 := Admissible_ok A p p.length c x y z w (hp.mem hm) rfl (by omega) hb hg; rw [hadm] at h5; exact h5)) ?_   -- tinplate/blank.Admissible
    rintro v Ln ⟨rfl, rfl⟩
    refine Plan.move (v := .tuple _) rfl rfl rfl ?_
    refine Plan.extract (v := .bool _) rfl rfl rfl rfl ?_
    refine Plan.extract (v := .int _ _) rfl rfl rfl rfl ?_
    refine Plan.assign (v := .bool _) rfl rfl rfl ?_
    refine Plan.assign (v := .int _ _) rfl rfl rfl ?_
    refine Plan.done ?_
    refine HW.seq (HW.region [(0, .st), (1, .st), (2, .ef), (3, .st), (4, .st), (5, .st), (6, .al), (7, .ef), (8, .st)] rfl rfl ?_)
    refine Plan.move (v := .slice _ _ _) rfl rfl rfl ?_
    refine Plan.loadAll 2 rfl rfl aggGrid sizGrid rfl rfl rfl ?_
    refine Plan.callF [] 0 rfl rfl rfl (.inl rfl) (by simp) (fun w hm => WitnessB_ok A p _ c x y z w (hp.mem hm) rfl (by omega) hb hg) ?_   -- tinplate/blank.Witness
    rintro v Ln ⟨v, e, hw, rfl, rfl⟩
    have hw2 : e = 10 ∧ v = (0, 0) := by
      rcases hw with ⟨h1, h2, _⟩ | ⟨_, ⟨h1, h2⟩, _⟩
      · exact ⟨h1, h2⟩
      · rw [admB, List.any_eq_true.2 ⟨v, h1, h2⟩] at hadm; cases hadm
    obtain ⟨rfl, rfl⟩ := hw2
    refine Plan.move (v := .tuple _) rfl rfl rfl ?_
    refine Plan.extract (v := .agg _) rfl rfl rfl rfl ?_
    refine Plan.extract (v := .int _ _) rfl rfl rfl rfl ?_
    refine Plan.alloc rfl zerV fun b11 => ?_
    refine Plan.storeA 0 rfl rfl hDn sizV rfl rfl rfl rfl rfl rfl ?_
    refine Plan.assign (v := .int _ _) rfl rfl rfl ?_
    refine Plan.done ?_
    refine HW.seq ?_
    refine HW.seq (HW.region [(0, .st), (1, .st)] rfl rfl ?_)
    refine Plan.move (v := .int _ _) rfl rfl rfl ?_
    refine Plan.cmp2 rfl rfl rfl rfl rfl (fun h41 => ?_) (fun h41 => ?_)
    · replace h41 := ne_of_t h41
      exact absurd rfl h41
    · replace h41 := eq_of_f h41
      refine Plan.done ?_
      refine HW.cond_false rfl ?_
      refine HW.skip ?_
      refine HW.seq ?_
      refine HW.seq (HW.region [(0, .st), (1, .st), (2, .st), (3, .st), (4, .st), (5, .st), (6, .st), (7, .st), (8, .st), (9, .st), (10, .st), (11, .st)] rfl rfl ?_)
      refine Plan.move (v := .bool _) rfl rfl rfl ?_
      refine Plan.move (v := .int _ _) rfl rfl rfl ?_
      refine Plan.cmp2 rfl rfl rfl rfl rfl (fun h50 => ?_) (fun h50 => ?_)
      · replace h50 := of_decide_eq_true h50
        refine Plan.neB rfl rfl undB rfl rfl ?_
        refine Plan.move (v := .bool _) rfl rfl rfl ?_
        refine Plan.move (v := .int _ _) rfl rfl rfl ?_
        refine Plan.cmp2 rfl rfl rfl rfl rfl (fun h54 => ?_) (fun h54 => ?_)
        · replace h54 := ne_of_t h54
          refine Plan.move (v := .bool _) rfl rfl rfl ?_
          refine Plan.move (v := .int _ _) rfl rfl rfl ?_
          refine Plan.cmp2 rfl rfl rfl rfl rfl (fun h57 => ?_) (fun h57 => ?_)
          · replace h57 := ne_of_t h57
            exact absurd rfl h57
          · replace h57 := eq_of_f h57
            refine Plan.pick (v := .bool _) rfl rfl rfl rfl ?_
            refine Plan.pick (v := .bool _) rfl rfl rfl rfl ?_
            refine Plan.done ?_
            refine HW.cond_false rfl ?_
            refine HW.skip ?_
            refine HW.seq ?_
            refine HW.seq (HW.region [(0, .st), (1, .st)] rfl rfl ?_)
            refine Plan.move (v := .int _ _) rfl rfl rfl ?_
            refine Plan.cmp2 rfl rfl rfl rfl rfl (fun h61 => ?_) (fun h61 => ?_)
            · replace h61 := of_decide_eq_true h61
              exact absurd h61 (by decide)
            · replace h61 := of_decide_eq_false h61
              refine Plan.done ?_
              refine HW.cond_false rfl ?_
              refine HW.skip ?_
              refine HW.seq ?_
              refine HW.seq (HW.region [(0, .st), (1, .st), (2, .st), (3, .st), (4, .st), (5, .st), (6, .st), (7, .st), (8, .st), (9, .st), (10, .st), (11, .st), (12, .st), (13, .st), (14, .st), (15, .st), (16, .st), (17, .st), (18, .st), (19, .st), (20, .st), (21, .st), (22, .st), (23, .st), (24, .st), (25, .st), (26, .st), (27, .st), (28, .st), (29, .st), (30, .st), (31, .st), (32, .st), (33, .st), (34, .st), (35, .st), (36, .st), (37, .st)] rfl rfl ?_)
              refine Plan.fieldAddr rfl rfl fldV0 rfl ?_
              refine Plan.load (v := .int _ _) rfl rfl aggI rfl (Sees.one 2 rfl rfl) ?_
              refine Plan.cmp2 rfl rfl rfl rfl rfl (fun h97 => ?_) (fun h97 => ?_)
              · replace h97 := of_decide_eq_true h97
                omega
              · replace h97 := of_decide_eq_false h97
                refine Plan.move (v := .bool _) rfl rfl rfl ?_
                refine Plan.fieldAddr rfl rfl fldV0 rfl ?_
                refine Plan.load (v := .int _ _) rfl rfl aggI rfl (Sees.one 2 rfl rfl) ?_
                refine Plan.cmp2 rfl rfl rfl rfl rfl (fun h101 => ?_) (fun h101 => ?_)
                · replace h101 := of_decide_eq_true h101
                  omega
                · replace h101 := of_decide_eq_false h101
                  refine Plan.pick (v := .bool _) rfl rfl rfl rfl ?_
                  refine Plan.move (v := .bool _) rfl rfl rfl ?_
                  refine Plan.fieldAddr rfl rfl fldV1 rfl ?_
                  refine Plan.load (v := .int _ _) rfl rfl aggI rfl (Sees.one 2 rfl rfl) ?_
                  refine Plan.cmp2 rfl rfl rfl rfl rfl (fun h106 => ?_) (fun h106 => ?_)
                  · replace h106 := of_decide_eq_true h106
                    omega
                  · replace h106 := of_decide_eq_false h106
                    refine Plan.pick (v := .bool _) rfl rfl rfl rfl ?_
                    refine Plan.move (v := .bool _) rfl rfl rfl ?_
                    refine Plan.fieldAddr rfl rfl fldV1 rfl ?_
                    refine Plan.load (v := .int _ _) rfl rfl aggI rfl (Sees.one 2 rfl rfl) ?_
                    refine Plan.cmp2 rfl rfl rfl rfl rfl (fun h111 => ?_) (fun h111 => ?_)
                    · replace h111 := of_decide_eq_true h111
                      omega
                    · replace h111 := of_decide_eq_false h111
                      refine Plan.pick (v := .bool _) rfl rfl rfl rfl ?_
                      refine Plan.move (v := .bool _) rfl rfl rfl ?_
                      refine Plan.fieldAddr rfl rfl fldV0 rfl ?_
                      refine Plan.load (v := .int _ _) rfl rfl aggI rfl (Sees.one 1 rfl rfl) ?_
                      refine Plan.cmp2 rfl rfl rfl rfl rfl (fun h116 => ?_) (fun h116 => ?_)
                      · replace h116 := of_decide_eq_true h116
                        omega
                      · replace h116 := of_decide_eq_false h116
                        refine Plan.pick (v := .bool _) rfl rfl rfl rfl ?_
                        refine Plan.move (v := .bool _) rfl rfl rfl ?_
                        refine Plan.fieldAddr rfl rfl fldV0 rfl ?_
                        refine Plan.load (v := .int _ _) rfl rfl aggI rfl (Sees.one 1 rfl rfl) ?_
                        refine Plan.cmp2 rfl rfl rfl rfl rfl (fun h121 => ?_) (fun h121 => ?_)
                        · replace h121 := of_decide_eq_true h121
                          omega
                        · replace h121 := of_decide_eq_false h121
                          refine Plan.pick (v := .bool _) rfl rfl rfl rfl ?_
                          refine Plan.move (v := .bool _) rfl rfl rfl ?_
                          refine Plan.fieldAddr rfl rfl fldV1 rfl ?_
                          refine Plan.load (v := .int _ _) rfl rfl aggI rfl (Sees.one 1 rfl rfl) ?_
                          refine Plan.cmp2 rfl rfl rfl rfl rfl (fun h126 => ?_) (fun h126 => ?_)
                          · replace h126 := of_decide_eq_true h126
                            omega
                          · replace h126 := of_decide_eq_false h126
                            refine Plan.pick (v := .bool _) rfl rfl rfl rfl ?_
                            refine Plan.move (v := .bool _) rfl rfl rfl ?_
                            refine Plan.fieldAddr rfl rfl fldV1 rfl ?_
                            refine Plan.load (v := .int _ _) rfl rfl aggI rfl (Sees.one 1 rfl rfl) ?_
                            refine Plan.cmp2 rfl rfl rfl rfl rfl (fun h131 => ?_) (fun h131 => ?_)
                            · replace h131 := of_decide_eq_true h131
                              omega
                            · replace h131 := of_decide_eq_false h131
                              refine Plan.pick (v := .bool _) rfl rfl rfl rfl ?_
                              refine Plan.done ?_
                              refine HW.cond_false rfl ?_
                              refine HW.skip ?_
                              refine HW.seq (HW.region [(0, .st), (1, .st), (2, .ef), (3, .st), (4, .st), (5, .st), (6, .st), (7, .st)] rfl rfl ?_)
                              refine Plan.move (v := .slice _ _ _) rfl rfl rfl ?_
                              refine Plan.loadAll 2 rfl rfl aggV sizV rfl rfl rfl ?_
                              refine Plan.callF [] 0 rfl rfl rfl (.inl rfl) (by simp) (fun w hm => (by have h5 := Move_ct A p u p.length c w (hp.mem hm) rfl (by omega); rw [hmu] at h5; exact h5)) ?_   -- tinplate/convex.Move
                              rintro v Ln ⟨o1, d1, rfl, rfl⟩
                              refine Plan.move (v := .tuple _) rfl rfl rfl ?_
                              refine Plan.extract (v := .slice _ _ _) rfl rfl rfl rfl ?_
                              refine Plan.extract (v := .int _ _) rfl rfl rfl rfl ?_
                              refine Plan.assign (v := .slice _ _ _) rfl rfl rfl ?_
                              refine Plan.assign (v := .int _ _) rfl rfl rfl ?_
                              refine Plan.done ?_
                              refine HW.seq (HW.region [(0, .st), (1, .st), (2, .ef), (3, .st), (4, .st), (5, .st), (6, .st), (7, .st)] rfl rfl ?_)
                              refine Plan.move (v := .slice _ _ _) rfl rfl rfl ?_
                              refine Plan.loadAll 2 rfl rfl aggV sizV rfl rfl rfl ?_
                              refine Plan.callF [] 0 rfl rfl rfl (.inl rfl) (by simp) (fun w hm => (by have h5 := Move_ct A p t p.length c w (hp.mem hm) rfl (by omega); rw [hmt] at h5; exact h5)) ?_   -- tinplate/convex.Move
                              rintro v Ln ⟨o2, d2, rfl, rfl⟩
                              refine Plan.move (v := .tuple _) rfl rfl rfl ?_
                              refine Plan.extract (v := .slice _ _ _) rfl rfl rfl rfl ?_
                              refine Plan.extract (v := .int _ _) rfl rfl rfl rfl ?_
                              refine Plan.assign (v := .slice _ _ _) rfl rfl rfl ?_
                              refine Plan.assign (v := .int _ _) rfl rfl rfl ?_
                              refine Plan.done ?_
                              refine HW.seq (HW.region [(0, .st), (1, .st), (2, .ef), (3, .st), (4, .st), (5, .st), (6, .st), (7, .st)] rfl rfl ?_)
                              refine Plan.move (v := .slice _ _ _) rfl rfl rfl ?_
                              refine Plan.move (v := .slice _ _ _) rfl rfl rfl ?_
                              refine Plan.callF [] 0 rfl rfl rfl (.inl rfl) (by simp) (fun w hm => (by have h5 := Overlap_ct (at0 o1) (at0 o2) (p.map (vAdd u)) (p.map (vAdd t)) (p.map (vAdd u)).length d1 (p.map (vAdd t)).length d2 w (Res.own_rd enc2 (hm.res (ownV o1 d1 (p.map (vAdd u))) (by simp))) (Res.own_rd enc2 (hm.res (ownV o2 d2 (p.map (vAdd t))) (by simp))) rfl rfl (by simp; omega) (by simp; omega); rw [hpo] at h5; exact h5)) ?_   -- tinplate/convex.Overlap
                              rintro v Ln ⟨rfl, rfl⟩
                              refine Plan.move (v := .tuple _) rfl rfl rfl ?_
                              refine Plan.extract (v := .bool _) rfl rfl rfl rfl ?_
                              refine Plan.extract (v := .int _ _) rfl rfl rfl rfl ?_
                              refine Plan.assign (v := .bool _) rfl rfl rfl ?_
                              refine Plan.assign (v := .int _ _) rfl rfl rfl ?_
                              refine Plan.done ?_
                              refine HW.seq (HW.region [(0, .st), (1, .st), (2, .st), (3, .st), (4, .st), (5, .st), (6, .st), (7, .st), (8, .st), (9, .st), (10, .st), (11, .al), (12, .ef)] rfl rfl ?_)
                              refine Plan.fieldAddr rfl rfl fldV0 rfl ?_
                              refine Plan.load (v := .int _ _) rfl rfl aggI rfl (Sees.one 3 rfl rfl) ?_
                              refine Plan.fieldAddr rfl rfl fldV0 rfl ?_
                              refine Plan.load (v := .int _ _) rfl rfl aggI rfl (Sees.one 4 rfl rfl) ?_
                              refine Plan.arithI rfl rfl rfl rfl rfl (by omega) ?_
                              refine Plan.fieldAddr rfl rfl fldV1 rfl ?_
                              refine Plan.load (v := .int _ _) rfl rfl aggI rfl (Sees.one 3 rfl rfl) ?_
                              refine Plan.fieldAddr rfl rfl fldV1 rfl ?_
                              refine Plan.load (v := .int _ _) rfl rfl aggI rfl (Sees.one 4 rfl rfl) ?_
                              refine Plan.arithI rfl rfl rfl rfl rfl (by omega) ?_
                              refine Plan.build rfl rfl rfl (bldV _ _) ?_
                              refine Plan.alloc rfl zerV fun b23 => ?_
                              refine Plan.storeA 0 rfl rfl hDn sizV rfl rfl rfl rfl rfl rfl ?_
                              refine Plan.done ?_
                              refine HW.seq (HW.region [(0, .st), (1, .st), (2, .st), (3, .st), (4, .st), (5, .st), (6, .st), (7, .st), (8, .st), (9, .st), (10, .st), (11, .st), (12, .st), (13, .st), (14, .ef), (15, .st), (16, .st), (17, .st), (18, .st), (19, .st), (20, .st), (21, .st), (22, .st), (23, .ef), (24, .st), (25, .st)] rfl rfl ?_)
                              refine Plan.move (v := .int _ _) rfl rfl rfl ?_
                              refine Plan.cmp2 rfl rfl rfl rfl rfl (fun h164 => ?_) (fun h164 => ?_)
                              · replace h164 := of_decide_eq_true h164
                                refine Plan.move (v := .bool _) rfl rfl rfl ?_
                                refine Plan.move (v := .int _ _) rfl rfl rfl ?_
                                refine Plan.cmp2 rfl rfl rfl rfl rfl (fun h167 => ?_) (fun h167 => ?_)
                                · replace h167 := of_decide_eq_true h167
                                  refine Plan.pick (v := .bool _) rfl rfl rfl rfl ?_
                                  refine Plan.move (v := .bool _) rfl rfl rfl ?_
                                  refine Plan.move (v := .int _ _) rfl rfl rfl ?_
                                  refine Plan.cmp2 rfl rfl rfl rfl rfl (fun h171 => ?_) (fun h171 => ?_)
                                  · replace h171 := of_decide_eq_true h171
                                    refine Plan.pick (v := .bool _) rfl rfl rfl rfl ?_
                                    refine Plan.move (v := .bool _) rfl rfl rfl ?_
                                    refine Plan.move (v := .bool _) rfl rfl rfl ?_
                                    refine Plan.move (v := .slice _ _ _) rfl rfl rfl ?_
                                    refine Plan.loadAll 0 rfl rfl aggV sizV rfl rfl rfl ?_
                                    refine Plan.callF [] 0 rfl rfl rfl (.inl rfl) (by simp) (fun w hm => collide_ct A p (t.1 - u.1, t.2 - u.2) _ c w (hp.mem hm) rfl hb) ?_   -- tinplate/tinplateref04.Collide
                                    rintro v Ln ⟨rfl, rfl⟩
                                    refine Plan.splitB (fun h177 => ?_) (fun h177 => ?_)
                                    · skip
                                      rw [h177] at hx; cases hx
                                    · skip
                                      refine Plan.move (v := .bool _) rfl rfl rfl ?_
                                      refine Plan.loadAll 0 rfl rfl aggV sizV rfl rfl rfl ?_
                                      refine Plan.build rfl rfl rfl (bld0) ?_
                                      refine Plan.eqV ((t.1 - u.1, t.2 - u.2)) ((0, 0)) rfl rfl rfl rfl rfl (fun h181 => ?_) (fun h181 => ?_)
                                      · skip
                                        rw [decide_eq_true h181, Bool.or_true] at hx; cases hx
                                      · skip
                                        refine Plan.pick (v := .bool _) rfl rfl rfl rfl ?_
                                        refine Plan.eqB rfl rfl undB rfl rfl ?_
                                        refine Plan.pick (v := .bool _) rfl rfl rfl rfl ?_
                                        refine Plan.move (v := .bool _) rfl rfl rfl ?_
                                        refine Plan.callF [] 0 rfl rfl rfl (.inl rfl) (by simp) (fun w hm => alive_ct w) ?_   -- tinplate/tinplatelaw04.alive
                                        rintro v Ln ⟨rfl, rfl⟩
                                        refine Plan.splitB (fun h186 => ?_) (fun h186 => ?_)
                                        · skip
                                          refine Plan.pick (v := .bool _) rfl rfl rfl rfl ?_
                                          refine Plan.assign (v := .bool _) rfl rfl rfl ?_
                                          refine Plan.done ?_
                                          exact HW.ret ⟨rfl, _, [], .tmp rfl .nil, List.nil_sublist _, rfl, rfl⟩
                                        · skip
                                          exact absurd h186 (by decide)
                                  · replace h171 := of_decide_eq_false h171
                                    exact absurd rfl h171
                                · replace h167 := of_decide_eq_false h167
                                  exact absurd rfl h167
                              · replace h164 := of_decide_eq_false h164
                                exact absurd rfl h164
        · replace h54 := eq_of_f h54
          exact absurd h54 (by decide)
      · replace h50 := of_decide_eq_false h50
        exact absurd rfl h50
  · skip
    exact absurd h60 (of_decide_eq_false h25)

set_option maxRecDepth 100000 in
set_option maxHeartbeats 2000000 in
theorem Wits_yo (A : Option Addr) (p : List Pt) (n c : Nat) (x y z : Int) (u t : Pt) (w : World) (hp : Rd enc 2 w A p) (hn : n = p.length) (h60 : p.length ≤ 60) (hb : blankF p = true) (hg : goodG (x, y, z) = true) (hadm : admB p (x, y, z) = false)
    (hout : u.1 < -900 ∨ 900 < u.1 ∨ u.2 < -900 ∨ 900 < u.2 ∨ t.1 < -900 ∨ 900 < t.1 ∨ t.2 < -900 ∨ 900 < t.2) :
    Ct P 11 #[.slice A n c, gdv x y z, vc u, vc t] w [] (fun r L => r = .bool true ∧ L = []) := by
  subst hn
  have undB := undB2
  refine Ct.of_body (rs := [.tmp 8]) (N := 188) (L := []) Try.func11 rfl rfl rfl (by kernel_rfl) rfl (Mem.refl w) ?_
  refine HW.seq (HW.region [(0, .ef), (1, .ef), (2, .ef), (3, .st)] rfl rfl ?_)
  refine Plan.boxA rfl rfl rfl fun b5 => ?_
  refine Plan.boxA rfl rfl rfl fun b6 => ?_
  refine Plan.boxA rfl rfl rfl fun b7 => ?_
  refine Plan.assign (v := .bool _) rfl rfl rfl ?_
  refine Plan.done ?_
  refine HW.seq ?_
  refine HW.seq (HW.region [(0, .st), (1, .ef), (2, .st)] rfl rfl ?_)
  refine Plan.move (v := .slice _ _ _) rfl rfl rfl ?_
  refine Plan.callF [] 0 rfl rfl rfl (.inl rfl) (by simp) (fun w hm => few_ct A p _ c w rfl) ?_   -- tinplate/tinplatelaw04.few
  rintro v Ln ⟨rfl, rfl⟩
  refine Plan.splitB (fun h25 => ?_) (fun h25 => ?_)
  · skip
    refine Plan.not rfl rfl rfl ?_
    refine Plan.done ?_
    refine HW.cond_false rfl ?_
    refine HW.skip ?_
    refine HW.seq (HW.region [(0, .st), (1, .st), (2, .ef), (3, .st), (4, .st), (5, .st), (6, .st), (7, .st)] rfl rfl ?_)
    refine Plan.move (v := .slice _ _ _) rfl rfl rfl ?_
    refine Plan.loadAll 2 rfl rfl aggGrid sizGrid rfl rfl rfl ?_
    refine Plan.callF [] 0 rfl rfl rfl (.inl rfl) (by simp) (fun w hm => (by have h5 := Admissible_ok A p p.length c x y z w (hp.mem hm) rfl (by omega) hb hg; rw [hadm] at h5; exact h5)) ?_   -- tinplate/blank.Admissible
    rintro v Ln ⟨rfl, rfl⟩
    refine Plan.move (v := .tuple _) rfl rfl rfl ?_
    refine Plan.extract (v := .bool _) rfl rfl rfl rfl ?_
    refine Plan.extract (v := .int _ _) rfl rfl rfl rfl ?_
    refine Plan.assign (v := .bool _) rfl rfl rfl ?_
    refine Plan.assign (v := .int _ _) rfl rfl rfl ?_
    refine Plan.done ?_
    refine HW.seq (HW.region [(0, .st), (1, .st), (2, .ef), (3, .st), (4, .st), (5, .st), (6, .al), (7, .ef), (8, .st)] rfl rfl ?_)
    refine Plan.move (v := .slice _ _ _) rfl rfl rfl ?_
    refine Plan.loadAll 2 rfl rfl aggGrid sizGrid rfl rfl rfl ?_
    refine Plan.callF [] 0 rfl rfl rfl (.inl rfl) (by simp) (fun w hm => WitnessB_ok A p _ c x y z w (hp.mem hm) rfl (by omega) hb hg) ?_   -- tinplate/blank.Witness
    rintro v Ln ⟨v, e, hw, rfl, rfl⟩
    have hw2 : e = 0 ∧ v ∈ hits p ∧ hasG (x, y, z) v = true := by
      rcases hw with ⟨h1, h2, h3⟩ | ⟨h0, ⟨h1, h2⟩, _⟩
      · have h4 : (hits p).any (hasG (x, y, z)) = false := by
          rw [List.any_eq_false]
          intro q hq
          rw [h3 q hq]
          decide
        rw [admB, h4] at hadm; cases hadm
      · exact ⟨h0, h1, h2⟩
    obtain ⟨rfl, hv1, hv2⟩ := hw2
    have hvb := hits_bd hv1
    have hvb9 : Bd2 900 v.1 v.2 := ⟨hvb.1.mono (by omega), hvb.2.mono (by omega)⟩
    have hmv := (move_blank hb hvb9).1
    have hov : OverlapF p (p.map (vAdd v)) = (true, 0) := by
      have h7 : hitB p v = true := by
        simp only [hitsN, List.mem_filter] at hv1
        exact hv1.2
      rw [hitB_eq hb hvb9] at h7
      simp only [Bool.and_eq_true] at h7
      rw [over_move hb hvb9, h7.1]
    refine Plan.move (v := .tuple _) rfl rfl rfl ?_
    refine Plan.extract (v := .agg _) rfl rfl rfl rfl ?_
    refine Plan.extract (v := .int _ _) rfl rfl rfl rfl ?_
    refine Plan.alloc rfl zerV fun b11 => ?_
    refine Plan.storeA 0 rfl rfl hDn sizV rfl rfl rfl rfl rfl rfl ?_
    refine Plan.assign (v := .int _ _) rfl rfl rfl ?_
    refine Plan.done ?_
    refine HW.seq ?_
    refine HW.seq (HW.region [(0, .st), (1, .st)] rfl rfl ?_)
    refine Plan.move (v := .int _ _) rfl rfl rfl ?_
    refine Plan.cmp2 rfl rfl rfl rfl rfl (fun h41 => ?_) (fun h41 => ?_)
    · replace h41 := ne_of_t h41
      exact absurd rfl h41
    · replace h41 := eq_of_f h41
      refine Plan.done ?_
      refine HW.cond_false rfl ?_
      refine HW.skip ?_
      refine HW.seq ?_
      refine HW.seq (HW.region [(0, .st), (1, .st), (2, .st), (3, .st), (4, .st), (5, .st), (6, .st), (7, .st), (8, .st), (9, .st), (10, .st), (11, .st)] rfl rfl ?_)
      refine Plan.move (v := .bool _) rfl rfl rfl ?_
      refine Plan.move (v := .int _ _) rfl rfl rfl ?_
      refine Plan.cmp2 rfl rfl rfl rfl rfl (fun h50 => ?_) (fun h50 => ?_)
      · replace h50 := of_decide_eq_true h50
        exact absurd h50 (by decide)
      · replace h50 := of_decide_eq_false h50
        refine Plan.neB rfl rfl undB rfl rfl ?_
        refine Plan.move (v := .bool _) rfl rfl rfl ?_
        refine Plan.move (v := .int _ _) rfl rfl rfl ?_
        refine Plan.cmp2 rfl rfl rfl rfl rfl (fun h54 => ?_) (fun h54 => ?_)
        · replace h54 := ne_of_t h54
          exact absurd rfl h54
        · replace h54 := eq_of_f h54
          refine Plan.move (v := .bool _) rfl rfl rfl ?_
          refine Plan.no rfl rfl ?_
          refine Plan.no rfl rfl ?_
          refine Plan.pick (v := .bool _) rfl rfl rfl rfl ?_
          refine Plan.pick (v := .bool _) rfl rfl rfl rfl ?_
          refine Plan.done ?_
          refine HW.cond_false rfl ?_
          refine HW.skip ?_
          refine HW.seq ?_
          refine HW.seq (HW.region [(0, .st), (1, .st)] rfl rfl ?_)
          refine Plan.move (v := .int _ _) rfl rfl rfl ?_
          refine Plan.cmp2 rfl rfl rfl rfl rfl (fun h61 => ?_) (fun h61 => ?_)
          · replace h61 := of_decide_eq_true h61
            refine Plan.done ?_
            refine HW.cond_true rfl ?_
            refine HW.seq (HW.region [(0, .st), (1, .st), (2, .ef), (3, .st), (4, .st), (5, .st), (6, .st), (7, .st)] rfl rfl ?_)
            refine Plan.move (v := .slice _ _ _) rfl rfl rfl ?_
            refine Plan.loadAll 0 rfl rfl aggV sizV rfl rfl rfl ?_
            refine Plan.callF [] 0 rfl rfl rfl (.inl rfl) (by simp) (fun w hm => (by have h5 := Move_ct A p v p.length c w (hp.mem hm) rfl (by omega); rw [hmv] at h5; exact h5)) ?_   -- tinplate/convex.Move
            rintro v Ln ⟨o, c1, rfl, rfl⟩
            refine Plan.move (v := .tuple _) rfl rfl rfl ?_
            refine Plan.extract (v := .slice _ _ _) rfl rfl rfl rfl ?_
            refine Plan.extract (v := .int _ _) rfl rfl rfl rfl ?_
            refine Plan.assign (v := .slice _ _ _) rfl rfl rfl ?_
            refine Plan.assign (v := .int _ _) rfl rfl rfl ?_
            refine Plan.done ?_
            refine HW.seq (HW.region [(0, .st), (1, .st), (2, .ef), (3, .st), (4, .st), (5, .st), (6, .st), (7, .st)] rfl rfl ?_)
            refine Plan.move (v := .slice _ _ _) rfl rfl rfl ?_
            refine Plan.move (v := .slice _ _ _) rfl rfl rfl ?_
            refine Plan.callF [] 0 rfl rfl rfl (.inl rfl) (by simp) (fun w hm => (by have h5 := Overlap_ct A (at0 o) p (p.map (vAdd v)) p.length c (p.map (vAdd v)).length c1 w (hp.mem hm) (Res.own_rd enc2 (hm.res (ownV o c1 (p.map (vAdd v))) (by simp))) rfl rfl (by omega) (by simp; omega); rw [hov] at h5; exact h5)) ?_   -- tinplate/convex.Overlap
            rintro v Ln ⟨rfl, rfl⟩
            refine Plan.move (v := .tuple _) rfl rfl rfl ?_
            refine Plan.extract (v := .bool _) rfl rfl rfl rfl ?_
            refine Plan.extract (v := .int _ _) rfl rfl rfl rfl ?_
            refine Plan.assign (v := .bool _) rfl rfl rfl ?_
            refine Plan.assign (v := .int _ _) rfl rfl rfl ?_
            refine Plan.done ?_
            refine HW.seq (HW.region [(0, .st), (1, .st), (2, .st), (3, .st), (4, .st), (5, .st), (6, .ef), (7, .st), (8, .st), (9, .st), (10, .st), (11, .st), (12, .st), (13, .st), (14, .st), (15, .st), (16, .st), (17, .st), (18, .st), (19, .st), (20, .st)] rfl rfl ?_)
            refine Plan.loadAll 1 rfl rfl aggV sizV rfl rfl rfl ?_
            refine Plan.build rfl rfl rfl (bld0) ?_
            refine Plan.eqV v ((0, 0)) rfl rfl rfl rfl rfl (fun h76 => ?_) (fun h76 => ?_)
            · skip
              exact absurd h76 (hits_ne hv1)
            · skip
              refine Plan.move (v := .bool _) rfl rfl rfl ?_
              refine Plan.loadAll 4 rfl rfl aggGrid sizGrid rfl rfl rfl ?_
              refine Plan.loadAll 1 rfl rfl aggV sizV rfl rfl rfl ?_
              refine Plan.callF [] 0 rfl rfl rfl (.inl rfl) (by simp) (fun w hm => inR_ct x y z _ _ w hg (hvb.1.mono (by omega)) (hvb.2.mono (by omega))) ?_   -- tinplate/tinplateref04.In
              rintro v Ln ⟨rfl, rfl⟩
              refine Plan.splitB (fun h80 => ?_) (fun h80 => ?_)
              · skip
                refine Plan.not rfl rfl rfl ?_
                refine Plan.pick (v := .bool _) rfl rfl rfl rfl ?_
                refine Plan.move (v := .bool _) rfl rfl rfl ?_
                refine Plan.move (v := .int _ _) rfl rfl rfl ?_
                refine Plan.cmp2 rfl rfl rfl rfl rfl (fun h85 => ?_) (fun h85 => ?_)
                · replace h85 := ne_of_t h85
                  exact absurd rfl h85
                · replace h85 := eq_of_f h85
                  refine Plan.pick (v := .bool _) rfl rfl rfl rfl ?_
                  refine Plan.move (v := .bool _) rfl rfl rfl ?_
                  refine Plan.move (v := .int _ _) rfl rfl rfl ?_
                  refine Plan.cmp2 rfl rfl rfl rfl rfl (fun h89 => ?_) (fun h89 => ?_)
                  · replace h89 := ne_of_t h89
                    exact absurd rfl h89
                  · replace h89 := eq_of_f h89
                    refine Plan.pick (v := .bool _) rfl rfl rfl rfl ?_
                    refine Plan.move (v := .bool _) rfl rfl rfl ?_
                    refine Plan.move (v := .bool _) rfl rfl rfl ?_
                    refine Plan.not rfl rfl rfl ?_
                    refine Plan.pick (v := .bool _) rfl rfl rfl rfl ?_
                    refine Plan.done ?_
                    refine HW.cond_false rfl ?_
                    refine HW.skip ?_
                    refine HW.seq ?_
                    refine HW.seq (HW.region [(0, .st), (1, .st), (2, .st), (3, .st), (4, .st), (5, .st), (6, .st), (7, .st), (8, .st), (9, .st), (10, .st), (11, .st), (12, .st), (13, .st), (14, .st), (15, .st), (16, .st), (17, .st), (18, .st), (19, .st), (20, .st), (21, .st), (22, .st), (23, .st), (24, .st), (25, .st), (26, .st), (27, .st), (28, .st), (29, .st), (30, .st), (31, .st), (32, .st), (33, .st), (34, .st), (35, .st), (36, .st), (37, .st)] rfl rfl ?_)
                    refine Plan.fieldAddr rfl rfl fldV0 rfl ?_
                    refine Plan.load (v := .int _ _) rfl rfl aggI rfl (Sees.one 3 rfl rfl) ?_
                    refine Plan.cmp2 rfl rfl rfl rfl rfl (fun h97 => ?_) (fun h97 => ?_)
                    · replace h97 := of_decide_eq_true h97
                      refine Plan.move (v := .bool _) rfl rfl rfl ?_
                      refine Plan.no rfl rfl ?_
                      refine Plan.no rfl rfl ?_
                      refine Plan.no rfl rfl ?_
                      refine Plan.pick (v := .bool _) rfl rfl rfl rfl ?_
                      refine Plan.move (v := .bool _) rfl rfl rfl ?_
                      refine Plan.no rfl rfl ?_
                      refine Plan.no rfl rfl ?_
                      refine Plan.no rfl rfl ?_
                      refine Plan.pick (v := .bool _) rfl rfl rfl rfl ?_
                      refine Plan.move (v := .bool _) rfl rfl rfl ?_
                      refine Plan.no rfl rfl ?_
                      refine Plan.no rfl rfl ?_
                      refine Plan.no rfl rfl ?_
                      refine Plan.pick (v := .bool _) rfl rfl rfl rfl ?_
                      refine Plan.move (v := .bool _) rfl rfl rfl ?_
                      refine Plan.no rfl rfl ?_
                      refine Plan.no rfl rfl ?_
                      refine Plan.no rfl rfl ?_
                      refine Plan.pick (v := .bool _) rfl rfl rfl rfl ?_
                      refine Plan.move (v := .bool _) rfl rfl rfl ?_
                      refine Plan.no rfl rfl ?_
                      refine Plan.no rfl rfl ?_
                      refine Plan.no rfl rfl ?_
                      refine Plan.pick (v := .bool _) rfl rfl rfl rfl ?_
                      refine Plan.move (v := .bool _) rfl rfl rfl ?_
                      refine Plan.no rfl rfl ?_
                      refine Plan.no rfl rfl ?_
                      refine Plan.no rfl rfl ?_
                      refine Plan.pick (v := .bool _) rfl rfl rfl rfl ?_
                      refine Plan.move (v := .bool _) rfl rfl rfl ?_
                      refine Plan.no rfl rfl ?_
                      refine Plan.no rfl rfl ?_
                      refine Plan.no rfl rfl ?_
                      refine Plan.pick (v := .bool _) rfl rfl rfl rfl ?_
                      refine Plan.done ?_
                      refine HW.cond_true rfl ?_
                      refine HW.seq (HW.region [(0, .ef), (1, .st)] rfl rfl ?_)
                      refine Plan.callF [] 0 rfl rfl rfl (.inl rfl) (by simp) (fun w hm => alive_ct w) ?_   -- tinplate/tinplatelaw04.alive
                      rintro v Ln ⟨rfl, rfl⟩
                      refine Plan.splitB (fun h133 => ?_) (fun h133 => ?_)
                      · skip
                        refine Plan.assign (v := .bool _) rfl rfl rfl ?_
                        refine Plan.done ?_
                        exact HW.ret ⟨rfl, _, [], .tmp rfl .nil, List.nil_sublist _, rfl, rfl⟩
                      · skip
                        exact absurd h133 (by decide)
                    · replace h97 := of_decide_eq_false h97
                      refine Plan.move (v := .bool _) rfl rfl rfl ?_
                      refine Plan.fieldAddr rfl rfl fldV0 rfl ?_
                      refine Plan.load (v := .int _ _) rfl rfl aggI rfl (Sees.one 3 rfl rfl) ?_
                      refine Plan.cmp2 rfl rfl rfl rfl rfl (fun h101 => ?_) (fun h101 => ?_)
                      · replace h101 := of_decide_eq_true h101
                        refine Plan.pick (v := .bool _) rfl rfl rfl rfl ?_
                        refine Plan.move (v := .bool _) rfl rfl rfl ?_
                        refine Plan.no rfl rfl ?_
                        refine Plan.no rfl rfl ?_
                        refine Plan.no rfl rfl ?_
                        refine Plan.pick (v := .bool _) rfl rfl rfl rfl ?_
                        refine Plan.move (v := .bool _) rfl rfl rfl ?_
                        refine Plan.no rfl rfl ?_
                        refine Plan.no rfl rfl ?_
                        refine Plan.no rfl rfl ?_
                        refine Plan.pick (v := .bool _) rfl rfl rfl rfl ?_
                        refine Plan.move (v := .bool _) rfl rfl rfl ?_
                        refine Plan.no rfl rfl ?_
                        refine Plan.no rfl rfl ?_
                        refine Plan.no rfl rfl ?_
                        refine Plan.pick (v := .bool _) rfl rfl rfl rfl ?_
                        refine Plan.move (v := .bool _) rfl rfl rfl ?_
                        refine Plan.no rfl rfl ?_
                        refine Plan.no rfl rfl ?_
                        refine Plan.no rfl rfl ?_
                        refine Plan.pick (v := .bool _) rfl rfl rfl rfl ?_
                        refine Plan.move (v := .bool _) rfl rfl rfl ?_
                        refine Plan.no rfl rfl ?_
                        refine Plan.no rfl rfl ?_
                        refine Plan.no rfl rfl ?_
                        refine Plan.pick (v := .bool _) rfl rfl rfl rfl ?_
                        refine Plan.move (v := .bool _) rfl rfl rfl ?_
                        refine Plan.no rfl rfl ?_
                        refine Plan.no rfl rfl ?_
                        refine Plan.no rfl rfl ?_
                        refine Plan.pick (v := .bool _) rfl rfl rfl rfl ?_
                        refine Plan.done ?_
                        refine HW.cond_true rfl ?_
                        refine HW.seq (HW.region [(0, .ef), (1, .st)] rfl rfl ?_)
                        refine Plan.callF [] 0 rfl rfl rfl (.inl rfl) (by simp) (fun w hm => alive_ct w) ?_   -- tinplate/tinplatelaw04.alive
                        rintro v Ln ⟨rfl, rfl⟩
                        refine Plan.splitB (fun h133 => ?_) (fun h133 => ?_)
                        · skip
                          refine Plan.assign (v := .bool _) rfl rfl rfl ?_
                          refine Plan.done ?_
                          exact HW.ret ⟨rfl, _, [], .tmp rfl .nil, List.nil_sublist _, rfl, rfl⟩
                        · skip
                          exact absurd h133 (by decide)
                      · replace h101 := of_decide_eq_false h101
                        refine Plan.pick (v := .bool _) rfl rfl rfl rfl ?_
                        refine Plan.move (v := .bool _) rfl rfl rfl ?_
                        refine Plan.fieldAddr rfl rfl fldV1 rfl ?_
                        refine Plan.load (v := .int _ _) rfl rfl aggI rfl (Sees.one 3 rfl rfl) ?_
                        refine Plan.cmp2 rfl rfl rfl rfl rfl (fun h106 => ?_) (fun h106 => ?_)
                        · replace h106 := of_decide_eq_true h106
                          refine Plan.pick (v := .bool _) rfl rfl rfl rfl ?_
                          refine Plan.move (v := .bool _) rfl rfl rfl ?_
                          refine Plan.no rfl rfl ?_
                          refine Plan.no rfl rfl ?_
                          refine Plan.no rfl rfl ?_
                          refine Plan.pick (v := .bool _) rfl rfl rfl rfl ?_
                          refine Plan.move (v := .bool _) rfl rfl rfl ?_
                          refine Plan.no rfl rfl ?_
                          refine Plan.no rfl rfl ?_
                          refine Plan.no rfl rfl ?_
                          refine Plan.pick (v := .bool _) rfl rfl rfl rfl ?_
                          refine Plan.move (v := .bool _) rfl rfl rfl ?_
                          refine Plan.no rfl rfl ?_
                          refine Plan.no rfl rfl ?_
                          refine Plan.no rfl rfl ?_
                          refine Plan.pick (v := .bool _) rfl rfl rfl rfl ?_
                          refine Plan.move (v := .bool _) rfl rfl rfl ?_
                          refine Plan.no rfl rfl ?_
                          refine Plan.no rfl rfl ?_
                          refine Plan.no rfl rfl ?_
                          refine Plan.pick (v := .bool _) rfl rfl rfl rfl ?_
                          refine Plan.move (v := .bool _) rfl rfl rfl ?_
                          refine Plan.no rfl rfl ?_
                          refine Plan.no rfl rfl ?_
                          refine Plan.no rfl rfl ?_
                          refine Plan.pick (v := .bool _) rfl rfl rfl rfl ?_
                          refine Plan.done ?_
                          refine HW.cond_true rfl ?_
                          refine HW.seq (HW.region [(0, .ef), (1, .st)] rfl rfl ?_)
                          refine Plan.callF [] 0 rfl rfl rfl (.inl rfl) (by simp) (fun w hm => alive_ct w) ?_   -- tinplate/tinplatelaw04.alive
                          rintro v Ln ⟨rfl, rfl⟩
                          refine Plan.splitB (fun h133 => ?_) (fun h133 => ?_)
                          · skip
                            refine Plan.assign (v := .bool _) rfl rfl rfl ?_
                            refine Plan.done ?_
                            exact HW.ret ⟨rfl, _, [], .tmp rfl .nil, List.nil_sublist _, rfl, rfl⟩
                          · skip
                            exact absurd h133 (by decide)
                        · replace h106 := of_decide_eq_false h106
                          refine Plan.pick (v := .bool _) rfl rfl rfl rfl ?_
                          refine Plan.move (v := .bool _) rfl rfl rfl ?_
                          refine Plan.fieldAddr rfl rfl fldV1 rfl ?_
                          refine Plan.load (v := .int _ _) rfl rfl aggI rfl (Sees.one 3 rfl rfl) ?_
                          refine Plan.cmp2 rfl rfl rfl rfl rfl (fun h111 => ?_) (fun h111 => ?_)
                          · replace h111 := of_decide_eq_true h111
                            refine Plan.pick (v := .bool _) rfl rfl rfl rfl ?_
                            refine Plan.move (v := .bool _) rfl rfl rfl ?_
                            refine Plan.no rfl rfl ?_
                            refine Plan.no rfl rfl ?_
                            refine Plan.no rfl rfl ?_
                            refine Plan.pick (v := .bool _) rfl rfl rfl rfl ?_
                            refine Plan.move (v := .bool _) rfl rfl rfl ?_
                            refine Plan.no rfl rfl ?_
                            refine Plan.no rfl rfl ?_
                            refine Plan.no rfl rfl ?_
                            refine Plan.pick (v := .bool _) rfl rfl rfl rfl ?_
                            refine Plan.move (v := .bool _) rfl rfl rfl ?_
                            refine Plan.no rfl rfl ?_
                            refine Plan.no rfl rfl ?_
                            refine Plan.no rfl rfl ?_
                            refine Plan.pick (v := .bool _) rfl rfl rfl rfl ?_
                            refine Plan.move (v := .bool _) rfl rfl rfl ?_
                            refine Plan.no rfl rfl ?_
                            refine Plan.no rfl rfl ?_
                            refine Plan.no rfl rfl ?_
                            refine Plan.pick (v := .bool _) rfl rfl rfl rfl ?_
                            refine Plan.done ?_
                            refine HW.cond_true rfl ?_
                            refine HW.seq (HW.region [(0, .ef), (1, .st)] rfl rfl ?_)
                            refine Plan.callF [] 0 rfl rfl rfl (.inl rfl) (by simp) (fun w hm => alive_ct w) ?_   -- tinplate/tinplatelaw04.alive
                            rintro v Ln ⟨rfl, rfl⟩
                            refine Plan.splitB (fun h133 => ?_) (fun h133 => ?_)
                            · skip
                              refine Plan.assign (v := .bool _) rfl rfl rfl ?_
                              refine Plan.done ?_
                              exact HW.ret ⟨rfl, _, [], .tmp rfl .nil, List.nil_sublist _, rfl, rfl⟩
                            · skip
                              exact absurd h133 (by decide)
                          · replace h111 := of_decide_eq_false h111
                            refine Plan.pick (v := .bool _) rfl rfl rfl rfl ?_
                            refine Plan.move (v := .bool _) rfl rfl rfl ?_
                            refine Plan.fieldAddr rfl rfl fldV0 rfl ?_
                            refine Plan.load (v := .int _ _) rfl rfl aggI rfl (Sees.one 2 rfl rfl) ?_
                            refine Plan.cmp2 rfl rfl rfl rfl rfl (fun h116 => ?_) (fun h116 => ?_)
                            · replace h116 := of_decide_eq_true h116
                              refine Plan.pick (v := .bool _) rfl rfl rfl rfl ?_
                              refine Plan.move (v := .bool _) rfl rfl rfl ?_
                              refine Plan.no rfl rfl ?_
                              refine Plan.no rfl rfl ?_
                              refine Plan.no rfl rfl ?_
                              refine Plan.pick (v := .bool _) rfl rfl rfl rfl ?_
                              refine Plan.move (v := .bool _) rfl rfl rfl ?_
                              refine Plan.no rfl rfl ?_
                              refine Plan.no rfl rfl ?_
                              refine Plan.no rfl rfl ?_
                              refine Plan.pick (v := .bool _) rfl rfl rfl rfl ?_
                              refine Plan.move (v := .bool _) rfl rfl rfl ?_
                              refine Plan.no rfl rfl ?_
                              refine Plan.no rfl rfl ?_
                              refine Plan.no rfl rfl ?_
                              refine Plan.pick (v := .bool _) rfl rfl rfl rfl ?_
                              refine Plan.done ?_
                              refine HW.cond_true rfl ?_
                              refine HW.seq (HW.region [(0, .ef), (1, .st)] rfl rfl ?_)
                              refine Plan.callF [] 0 rfl rfl rfl (.inl rfl) (by simp) (fun w hm => alive_ct w) ?_   -- tinplate/tinplatelaw04.alive
                              rintro v Ln ⟨rfl, rfl⟩
                              refine Plan.splitB (fun h133 => ?_) (fun h133 => ?_)
                              · skip
                                refine Plan.assign (v := .bool _) rfl rfl rfl ?_
                                refine Plan.done ?_
                                exact HW.ret ⟨rfl, _, [], .tmp rfl .nil, List.nil_sublist _, rfl, rfl⟩
                              · skip
                                exact absurd h133 (by decide)
                            · replace h116 := of_decide_eq_false h116
                              refine Plan.pick (v := .bool _) rfl rfl rfl rfl ?_
                              refine Plan.move (v := .bool _) rfl rfl rfl ?_
                              refine Plan.fieldAddr rfl rfl fldV0 rfl ?_
                              refine Plan.load (v := .int _ _) rfl rfl aggI rfl (Sees.one 2 rfl rfl) ?_
                              refine Plan.cmp2 rfl rfl rfl rfl rfl (fun h121 => ?_) (fun h121 => ?_)
                              · replace h121 := of_decide_eq_true h121
                                refine Plan.pick (v := .bool _) rfl rfl rfl rfl ?_
                                refine Plan.move (v := .bool _) rfl rfl rfl ?_
                                refine Plan.no rfl rfl ?_
                                refine Plan.no rfl rfl ?_
                                refine Plan.no rfl rfl ?_
                                refine Plan.pick (v := .bool _) rfl rfl rfl rfl ?_
                                refine Plan.move (v := .bool _) rfl rfl rfl ?_
                                refine Plan.no rfl rfl ?_
                                refine Plan.no rfl rfl ?_
                                refine Plan.no rfl rfl ?_
                                refine Plan.pick (v := .bool _) rfl rfl rfl rfl ?_
                                refine Plan.done ?_
                                refine HW.cond_true rfl ?_
                                refine HW.seq (HW.region [(0, .ef), (1, .st)] rfl rfl ?_)
                                refine Plan.callF [] 0 rfl rfl rfl (.inl rfl) (by simp) (fun w hm => alive_ct w) ?_   -- tinplate/tinplatelaw04.alive
                                rintro v Ln ⟨rfl, rfl⟩
                                refine Plan.splitB (fun h133 => ?_) (fun h133 => ?_)
                                · skip
                                  refine Plan.assign (v := .bool _) rfl rfl rfl ?_
                                  refine Plan.done ?_
                                  exact HW.ret ⟨rfl, _, [], .tmp rfl .nil, List.nil_sublist _, rfl, rfl⟩
                                · skip
                                  exact absurd h133 (by decide)
                              · replace h121 := of_decide_eq_false h121
                                refine Plan.pick (v := .bool _) rfl rfl rfl rfl ?_
                                refine Plan.move (v := .bool _) rfl rfl rfl ?_
                                refine Plan.fieldAddr rfl rfl fldV1 rfl ?_
                                refine Plan.load (v := .int _ _) rfl rfl aggI rfl (Sees.one 2 rfl rfl) ?_
                                refine Plan.cmp2 rfl rfl rfl rfl rfl (fun h126 => ?_) (fun h126 => ?_)
                                · replace h126 := of_decide_eq_true h126
                                  refine Plan.pick (v := .bool _) rfl rfl rfl rfl ?_
                                  refine Plan.move (v := .bool _) rfl rfl rfl ?_
                                  refine Plan.no rfl rfl ?_
                                  refine Plan.no rfl rfl ?_
                                  refine Plan.no rfl rfl ?_
                                  refine Plan.pick (v := .bool _) rfl rfl rfl rfl ?_
                                  refine Plan.done ?_
                                  refine HW.cond_true rfl ?_
                                  refine HW.seq (HW.region [(0, .ef), (1, .st)] rfl rfl ?_)
                                  refine Plan.callF [] 0 rfl rfl rfl (.inl rfl) (by simp) (fun w hm => alive_ct w) ?_   -- tinplate/tinplatelaw04.alive
                                  rintro v Ln ⟨rfl, rfl⟩
                                  refine Plan.splitB (fun h133 => ?_) (fun h133 => ?_)
                                  · skip
                                    refine Plan.assign (v := .bool _) rfl rfl rfl ?_
                                    refine Plan.done ?_
                                    exact HW.ret ⟨rfl, _, [], .tmp rfl .nil, List.nil_sublist _, rfl, rfl⟩
                                  · skip
                                    exact absurd h133 (by decide)
                                · replace h126 := of_decide_eq_false h126
                                  refine Plan.pick (v := .bool _) rfl rfl rfl rfl ?_
                                  refine Plan.move (v := .bool _) rfl rfl rfl ?_
                                  refine Plan.fieldAddr rfl rfl fldV1 rfl ?_
                                  refine Plan.load (v := .int _ _) rfl rfl aggI rfl (Sees.one 2 rfl rfl) ?_
                                  refine Plan.cmp2 rfl rfl rfl rfl rfl (fun h131 => ?_) (fun h131 => ?_)
                                  · replace h131 := of_decide_eq_true h131
                                    refine Plan.pick (v := .bool _) rfl rfl rfl rfl ?_
                                    refine Plan.done ?_
                                    refine HW.cond_true rfl ?_
                                    refine HW.seq (HW.region [(0, .ef), (1, .st)] rfl rfl ?_)
                                    refine Plan.callF [] 0 rfl rfl rfl (.inl rfl) (by simp) (fun w hm => alive_ct w) ?_   -- tinplate/tinplatelaw04.alive
                                    rintro v Ln ⟨rfl, rfl⟩
                                    refine Plan.splitB (fun h133 => ?_) (fun h133 => ?_)
                                    · skip
                                      refine Plan.assign (v := .bool _) rfl rfl rfl ?_
                                      refine Plan.done ?_
                                      exact HW.ret ⟨rfl, _, [], .tmp rfl .nil, List.nil_sublist _, rfl, rfl⟩
                                    · skip
                                      exact absurd h133 (by decide)
                                  · replace h131 := of_decide_eq_false h131
                                    omega
              · skip
                exact absurd h80 (by rw [show hasG (x, y, z) (v.1, v.2) = true from hv2]; decide)
          · replace h61 := of_decide_eq_false h61
            exact absurd rfl h61
  · skip
    exact absurd h60 (of_decide_eq_false h25)

set_option maxRecDepth 100000 in
set_option maxHeartbeats 2000000 in
theorem Wits_yt (A : Option Addr) (p : List Pt) (n c : Nat) (x y z : Int) (u t : Pt) (w : World) (hp : Rd enc 2 w A p) (hn : n = p.length) (h60 : p.length ≤ 60) (hb : blankF p = true) (hg : goodG (x, y, z) = true) (hadm : admB p (x, y, z) = false)
    (hin : -900 ≤ u.1 ∧ u.1 ≤ 900 ∧ -900 ≤ u.2 ∧ u.2 ≤ 900 ∧ -900 ≤ t.1 ∧ t.1 ≤ 900 ∧ -900 ≤ t.2 ∧ t.2 ≤ 900) (hx : (collB p (t.1 - u.1, t.2 - u.2) || decide ((t.1 - u.1, t.2 - u.2) = ((0, 0) : Pt))) = true) :
    Ct P 11 #[.slice A n c, gdv x y z, vc u, vc t] w [] (fun r L => r = .bool true ∧ L = []) := by
  subst hn
  have undB := undB2
  have hub : Bd2 900 u.1 u.2 := ⟨⟨by omega, by omega⟩, ⟨by omega, by omega⟩⟩
  have htb : Bd2 900 t.1 t.2 := ⟨⟨by omega, by omega⟩, ⟨by omega, by omega⟩⟩
  have hmu := (move_blank hb hub).1
  have hmt := (move_blank hb htb).1
  have hpo := pair_over hb hub htb
  rw [hx] at hpo
  refine Ct.of_body (rs := [.tmp 8]) (N := 188) (L := []) Try.func11 rfl rfl rfl (by kernel_rfl) rfl (Mem.refl w) ?_
  refine HW.seq (HW.region [(0, .ef), (1, .ef), (2, .ef), (3, .st)] rfl rfl ?_)
  refine Plan.boxA rfl rfl rfl fun b5 => ?_
  refine Plan.boxA rfl rfl rfl fun b6 => ?_
  refine Plan.boxA rfl rfl rfl fun b7 => ?_
  refine Plan.assign (v := .bool _) rfl rfl rfl ?_
  refine Plan.done ?_
  refine HW.seq ?_
  refine HW.seq (HW.region [(0, .st), (1, .ef), (2, .st)] rfl rfl ?_)
  refine Plan.move (v := .slice _ _ _) rfl rfl rfl ?_
  refine Plan.callF [] 0 rfl rfl rfl (.inl rfl) (by simp) (fun w hm => few_ct A p _ c w rfl) ?_   -- tinplate/tinplatelaw04.few
  rintro v Ln ⟨rfl, rfl⟩
  refine Plan.splitB (fun h25 => ?_) (fun h25 => ?_)
  · skip
    refine Plan.not rfl rfl rfl ?_
    refine Plan.done ?_
    refine HW.cond_false rfl ?_
    refine HW.skip ?_
    refine HW.seq (HW.region [(0, .st), (1, .st), (2, .ef), (3, .st), (4, .st), (5, .st), (6, .st), (7, .st)] rfl rfl ?_)
    refine Plan.move (v := .slice _ _ _) rfl rfl rfl ?_
    refine Plan.loadAll 2 rfl rfl aggGrid sizGrid rfl rfl rfl ?_
    refine Plan.callF [] 0 rfl rfl rfl (.inl rfl) (by simp) (fun w hm => (by have h5 := Admissible_ok A p p.length c x y z w (hp.mem hm) rfl (by omega) hb hg; rw [hadm] at h5; exact h5)) ?_   -- tinplate/blank.Admissible
    rintro v Ln ⟨rfl, rfl⟩
    refine Plan.move (v := .tuple _) rfl rfl rfl ?_
    refine Plan.extract (v := .bool _) rfl rfl rfl rfl ?_
    refine Plan.extract (v := .int _ _) rfl rfl rfl rfl ?_
    refine Plan.assign (v := .bool _) rfl rfl rfl ?_
    refine Plan.assign (v := .int _ _) rfl rfl rfl ?_
    refine Plan.done ?_
    refine HW.seq (HW.region [(0, .st), (1, .st), (2, .ef), (3, .st), (4, .st), (5, .st), (6, .al), (7, .ef), (8, .st)] rfl rfl ?_)
    refine Plan.move (v := .slice _ _ _) rfl rfl rfl ?_
    refine Plan.loadAll 2 rfl rfl aggGrid sizGrid rfl rfl rfl ?_
    refine Plan.callF [] 0 rfl rfl rfl (.inl rfl) (by simp) (fun w hm => WitnessB_ok A p _ c x y z w (hp.mem hm) rfl (by omega) hb hg) ?_   -- tinplate/blank.Witness
    rintro v Ln ⟨v, e, hw, rfl, rfl⟩
    have hw2 : e = 0 ∧ v ∈ hits p ∧ hasG (x, y, z) v = true := by
      rcases hw with ⟨h1, h2, h3⟩ | ⟨h0, ⟨h1, h2⟩, _⟩
      · have h4 : (hits p).any (hasG (x, y, z)) = false := by
          rw [List.any_eq_false]
          intro q hq
          rw [h3 q hq]
          decide
        rw [admB, h4] at hadm; cases hadm
      · exact ⟨h0, h1, h2⟩
    obtain ⟨rfl, hv1, hv2⟩ := hw2
    have hvb := hits_bd hv1
    have hvb9 : Bd2 900 v.1 v.2 := ⟨hvb.1.mono (by omega), hvb.2.mono (by omega)⟩
    have hmv := (move_blank hb hvb9).1
    have hov : OverlapF p (p.map (vAdd v)) = (true, 0) := by
      have h7 : hitB p v = true := by
        simp only [hitsN, List.mem_filter] at hv1
        exact hv1.2
      rw [hitB_eq hb hvb9] at h7
      simp only [Bool.and_eq_true] at h7
      rw [over_move hb hvb9, h7.1]
    refine Plan.move (v := .tuple _) rfl rfl rfl ?_
    refine Plan.extract (v := .agg _) rfl rfl rfl rfl ?_
    refine Plan.extract (v := .int _ _) rfl rfl rfl rfl ?_
    refine Plan.alloc rfl zerV fun b11 => ?_
    refine Plan.storeA 0 rfl rfl hDn sizV rfl rfl rfl rfl rfl rfl ?_
    refine Plan.assign (v := .int _ _) rfl rfl rfl ?_
    refine Plan.done ?_
    refine HW.seq ?_
    refine HW.seq (HW.region [(0, .st), (1, .st)] rfl rfl ?_)
    refine Plan.move (v := .int _ _) rfl rfl rfl ?_
    refine Plan.cmp2 rfl rfl rfl rfl rfl (fun h41 => ?_) (fun h41 => ?_)
    · replace h41 := ne_of_t h41
      exact absurd rfl h41
    · replace h41 := eq_of_f h41
      refine Plan.done ?_
      refine HW.cond_false rfl ?_
      refine HW.skip ?_
      refine HW.seq ?_
      refine HW.seq (HW.region [(0, .st), (1, .st), (2, .st), (3, .st), (4, .st), (5, .st), (6, .st), (7, .st), (8, .st), (9, .st), (10, .st), (11, .st)] rfl rfl ?_)
      refine Plan.move (v := .bool _) rfl rfl rfl ?_
      refine Plan.move (v := .int _ _) rfl rfl rfl ?_
      refine Plan.cmp2 rfl rfl rfl rfl rfl (fun h50 => ?_) (fun h50 => ?_)
      · replace h50 := of_decide_eq_true h50
        exact absurd h50 (by decide)
      · replace h50 := of_decide_eq_false h50
        refine Plan.neB rfl rfl undB rfl rfl ?_
        refine Plan.move (v := .bool _) rfl rfl rfl ?_
        refine Plan.move (v := .int _ _) rfl rfl rfl ?_
        refine Plan.cmp2 rfl rfl rfl rfl rfl (fun h54 => ?_) (fun h54 => ?_)
        · replace h54 := ne_of_t h54
          exact absurd rfl h54
        · replace h54 := eq_of_f h54
          refine Plan.move (v := .bool _) rfl rfl rfl ?_
          refine Plan.no rfl rfl ?_
          refine Plan.no rfl rfl ?_
          refine Plan.pick (v := .bool _) rfl rfl rfl rfl ?_
          refine Plan.pick (v := .bool _) rfl rfl rfl rfl ?_
          refine Plan.done ?_
          refine HW.cond_false rfl ?_
          refine HW.skip ?_
          refine HW.seq ?_
          refine HW.seq (HW.region [(0, .st), (1, .st)] rfl rfl ?_)
          refine Plan.move (v := .int _ _) rfl rfl rfl ?_
          refine Plan.cmp2 rfl rfl rfl rfl rfl (fun h61 => ?_) (fun h61 => ?_)
          · replace h61 := of_decide_eq_true h61
            refine Plan.done ?_
            refine HW.cond_true rfl ?_
            refine HW.seq (HW.region [(0, .st), (1, .st), (2, .ef), (3, .st), (4, .st), (5, .st), (6, .st), (7, .st)] rfl rfl ?_)
            refine Plan.move (v := .slice _ _ _) rfl rfl rfl ?_
            refine Plan.loadAll 0 rfl rfl aggV sizV rfl rfl rfl ?_
            refine Plan.callF [] 0 rfl rfl rfl (.inl rfl) (by simp) (fun w hm => (by have h5 := Move_ct A p v p.length c w (hp.mem hm) rfl (by omega); rw [hmv] at h5; exact h5)) ?_   -- tinplate/convex.Move
            rintro v Ln ⟨o, c1, rfl, rfl⟩
            refine Plan.move (v := .tuple _) rfl rfl rfl ?_
            refine Plan.extract (v := .slice _ _ _) rfl rfl rfl rfl ?_
            refine Plan.extract (v := .int _ _) rfl rfl rfl rfl ?_
            refine Plan.assign (v := .slice _ _ _) rfl rfl rfl ?_
            refine Plan.assign (v := .int _ _) rfl rfl rfl ?_
            refine Plan.done ?_
            refine HW.seq (HW.region [(0, .st), (1, .st), (2, .ef), (3, .st), (4, .st), (5, .st), (6, .st), (7, .st)] rfl rfl ?_)
            refine Plan.move (v := .slice _ _ _) rfl rfl rfl ?_
            refine Plan.move (v := .slice _ _ _) rfl rfl rfl ?_
            refine Plan.callF [] 0 rfl rfl rfl (.inl rfl) (by simp) (fun w hm => (by have h5 := Overlap_ct A (at0 o) p (p.map (vAdd v)) p.length c (p.map (vAdd v)).length c1 w (hp.mem hm) (Res.own_rd enc2 (hm.res (ownV o c1 (p.map (vAdd v))) (by simp))) rfl rfl (by omega) (by simp; omega); rw [hov] at h5; exact h5)) ?_   -- tinplate/convex.Overlap
            rintro v Ln ⟨rfl, rfl⟩
            refine Plan.move (v := .tuple _) rfl rfl rfl ?_
            refine Plan.extract (v := .bool _) rfl rfl rfl rfl ?_
            refine Plan.extract (v := .int _ _) rfl rfl rfl rfl ?_
            refine Plan.assign (v := .bool _) rfl rfl rfl ?_
            refine Plan.assign (v := .int _ _) rfl rfl rfl ?_
            refine Plan.done ?_
            refine HW.seq (HW.region [(0, .st), (1, .st), (2, .st), (3, .st), (4, .st), (5, .st), (6, .ef), (7, .st), (8, .st), (9, .st), (10, .st), (11, .st), (12, .st), (13, .st), (14, .st), (15, .st), (16, .st), (17, .st), (18, .st), (19, .st), (20, .st)] rfl rfl ?_)
            refine Plan.loadAll 1 rfl rfl aggV sizV rfl rfl rfl ?_
            refine Plan.build rfl rfl rfl (bld0) ?_
            refine Plan.eqV v ((0, 0)) rfl rfl rfl rfl rfl (fun h76 => ?_) (fun h76 => ?_)
            · skip
              exact absurd h76 (hits_ne hv1)
            · skip
              refine Plan.move (v := .bool _) rfl rfl rfl ?_
              refine Plan.loadAll 4 rfl rfl aggGrid sizGrid rfl rfl rfl ?_
              refine Plan.loadAll 1 rfl rfl aggV sizV rfl rfl rfl ?_
              refine Plan.callF [] 0 rfl rfl rfl (.inl rfl) (by simp) (fun w hm => inR_ct x y z _ _ w hg (hvb.1.mono (by omega)) (hvb.2.mono (by omega))) ?_   -- tinplate/tinplateref04.In
              rintro v Ln ⟨rfl, rfl⟩
              refine Plan.splitB (fun h80 => ?_) (fun h80 => ?_)
              · skip
                refine Plan.not rfl rfl rfl ?_
                refine Plan.pick (v := .bool _) rfl rfl rfl rfl ?_
                refine Plan.move (v := .bool _) rfl rfl rfl ?_
                refine Plan.move (v := .int _ _) rfl rfl rfl ?_
                refine Plan.cmp2 rfl rfl rfl rfl rfl (fun h85 => ?_) (fun h85 => ?_)
                · replace h85 := ne_of_t h85
                  exact absurd rfl h85
                · replace h85 := eq_of_f h85
                  refine Plan.pick (v := .bool _) rfl rfl rfl rfl ?_
                  refine Plan.move (v := .bool _) rfl rfl rfl ?_
                  refine Plan.move (v := .int _ _) rfl rfl rfl ?_
                  refine Plan.cmp2 rfl rfl rfl rfl rfl (fun h89 => ?_) (fun h89 => ?_)
                  · replace h89 := ne_of_t h89
                    exact absurd rfl h89
                  · replace h89 := eq_of_f h89
                    refine Plan.pick (v := .bool _) rfl rfl rfl rfl ?_
                    refine Plan.move (v := .bool _) rfl rfl rfl ?_
                    refine Plan.move (v := .bool _) rfl rfl rfl ?_
                    refine Plan.not rfl rfl rfl ?_
                    refine Plan.pick (v := .bool _) rfl rfl rfl rfl ?_
                    refine Plan.done ?_
                    refine HW.cond_false rfl ?_
                    refine HW.skip ?_
                    refine HW.seq ?_
                    refine HW.seq (HW.region [(0, .st), (1, .st), (2, .st), (3, .st), (4, .st), (5, .st), (6, .st), (7, .st), (8, .st), (9, .st), (10, .st), (11, .st), (12, .st), (13, .st), (14, .st), (15, .st), (16, .st), (17, .st), (18, .st), (19, .st), (20, .st), (21, .st), (22, .st), (23, .st), (24, .st), (25, .st), (26, .st), (27, .st), (28, .st), (29, .st), (30, .st), (31, .st), (32, .st), (33, .st), (34, .st), (35, .st), (36, .st), (37, .st)] rfl rfl ?_)
                    refine Plan.fieldAddr rfl rfl fldV0 rfl ?_
                    refine Plan.load (v := .int _ _) rfl rfl aggI rfl (Sees.one 3 rfl rfl) ?_
                    refine Plan.cmp2 rfl rfl rfl rfl rfl (fun h97 => ?_) (fun h97 => ?_)
                    · replace h97 := of_decide_eq_true h97
                      omega
                    · replace h97 := of_decide_eq_false h97
                      refine Plan.move (v := .bool _) rfl rfl rfl ?_
                      refine Plan.fieldAddr rfl rfl fldV0 rfl ?_
                      refine Plan.load (v := .int _ _) rfl rfl aggI rfl (Sees.one 3 rfl rfl) ?_
                      refine Plan.cmp2 rfl rfl rfl rfl rfl (fun h101 => ?_) (fun h101 => ?_)
                      · replace h101 := of_decide_eq_true h101
                        omega
                      · replace h101 := of_decide_eq_false h101
                        refine Plan.pick (v := .bool _) rfl rfl rfl rfl ?_
                        refine Plan.move (v := .bool _) rfl rfl rfl ?_
                        refine Plan.fieldAddr rfl rfl fldV1 rfl ?_
                        refine Plan.load (v := .int _ _) rfl rfl aggI rfl (Sees.one 3 rfl rfl) ?_
                        refine Plan.cmp2 rfl rfl rfl rfl rfl (fun h106 => ?_) (fun h106 => ?_)
                        · replace h106 := of_decide_eq_true h106
                          omega
                        · replace h106 := of_decide_eq_false h106
                          refine Plan.pick (v := .bool _) rfl rfl rfl rfl ?_
                          refine Plan.move (v := .bool _) rfl rfl rfl ?_
                          refine Plan.fieldAddr rfl rfl fldV1 rfl ?_
                          refine Plan.load (v := .int _ _) rfl rfl aggI rfl (Sees.one 3 rfl rfl) ?_
                          refine Plan.cmp2 rfl rfl rfl rfl rfl (fun h111 => ?_) (fun h111 => ?_)
                          · replace h111 := of_decide_eq_true h111
                            omega
                          · replace h111 := of_decide_eq_false h111
                            refine Plan.pick (v := .bool _) rfl rfl rfl rfl ?_
                            refine Plan.move (v := .bool _) rfl rfl rfl ?_
                            refine Plan.fieldAddr rfl rfl fldV0 rfl ?_
                            refine Plan.load (v := .int _ _) rfl rfl aggI rfl (Sees.one 2 rfl rfl) ?_
                            refine Plan.cmp2 rfl rfl rfl rfl rfl (fun h116 => ?_) (fun h116 => ?_)
                            · replace h116 := of_decide_eq_true h116
                              omega
                            · replace h116 := of_decide_eq_false h116
                              refine Plan.pick (v := .bool _) rfl rfl rfl rfl ?_
                              refine Plan.move (v := .bool _) rfl rfl rfl ?_
                              refine Plan.fieldAddr rfl rfl fldV0 rfl ?_
                              refine Plan.load (v := .int _ _) rfl rfl aggI rfl (Sees.one 2 rfl rfl) ?_
                              refine Plan.cmp2 rfl rfl rfl rfl rfl (fun h121 => ?_) (fun h121 => ?_)
                              · replace h121 := of_decide_eq_true h121
                                omega
                              · replace h121 := of_decide_eq_false h121
                                refine Plan.pick (v := .bool _) rfl rfl rfl rfl ?_
                                refine Plan.move (v := .bool _) rfl rfl rfl ?_
                                refine Plan.fieldAddr rfl rfl fldV1 rfl ?_
                                refine Plan.load (v := .int _ _) rfl rfl aggI rfl (Sees.one 2 rfl rfl) ?_
                                refine Plan.cmp2 rfl rfl rfl rfl rfl (fun h126 => ?_) (fun h126 => ?_)
                                · replace h126 := of_decide_eq_true h126
                                  omega
                                · replace h126 := of_decide_eq_false h126
                                  refine Plan.pick (v := .bool _) rfl rfl rfl rfl ?_
                                  refine Plan.move (v := .bool _) rfl rfl rfl ?_
                                  refine Plan.fieldAddr rfl rfl fldV1 rfl ?_
                                  refine Plan.load (v := .int _ _) rfl rfl aggI rfl (Sees.one 2 rfl rfl) ?_
                                  refine Plan.cmp2 rfl rfl rfl rfl rfl (fun h131 => ?_) (fun h131 => ?_)
                                  · replace h131 := of_decide_eq_true h131
                                    omega
                                  · replace h131 := of_decide_eq_false h131
                                    refine Plan.pick (v := .bool _) rfl rfl rfl rfl ?_
                                    refine Plan.done ?_
                                    refine HW.cond_false rfl ?_
                                    refine HW.skip ?_
                                    refine HW.seq (HW.region [(0, .st), (1, .st), (2, .ef), (3, .st), (4, .st), (5, .st), (6, .st), (7, .st)] rfl rfl ?_)
                                    refine Plan.move (v := .slice _ _ _) rfl rfl rfl ?_
                                    refine Plan.loadAll 3 rfl rfl aggV sizV rfl rfl rfl ?_
                                    refine Plan.callF [] 0 rfl rfl rfl (.inl rfl) (by simp) (fun w hm => (by have h5 := Move_ct A p u p.length c w (hp.mem hm) rfl (by omega); rw [hmu] at h5; exact h5)) ?_   -- tinplate/convex.Move
                                    rintro v Ln ⟨o1, d1, rfl, rfl⟩
                                    refine Plan.move (v := .tuple _) rfl rfl rfl ?_
                                    refine Plan.extract (v := .slice _ _ _) rfl rfl rfl rfl ?_
                                    refine Plan.extract (v := .int _ _) rfl rfl rfl rfl ?_
                                    refine Plan.assign (v := .slice _ _ _) rfl rfl rfl ?_
                                    refine Plan.assign (v := .int _ _) rfl rfl rfl ?_
                                    refine Plan.done ?_
                                    refine HW.seq (HW.region [(0, .st), (1, .st), (2, .ef), (3, .st), (4, .st), (5, .st), (6, .st), (7, .st)] rfl rfl ?_)
                                    refine Plan.move (v := .slice _ _ _) rfl rfl rfl ?_
                                    refine Plan.loadAll 3 rfl rfl aggV sizV rfl rfl rfl ?_
                                    refine Plan.callF [] 0 rfl rfl rfl (.inl rfl) (by simp) (fun w hm => (by have h5 := Move_ct A p t p.length c w (hp.mem hm) rfl (by omega); rw [hmt] at h5; exact h5)) ?_   -- tinplate/convex.Move
                                    rintro v Ln ⟨o2, d2, rfl, rfl⟩
                                    refine Plan.move (v := .tuple _) rfl rfl rfl ?_
                                    refine Plan.extract (v := .slice _ _ _) rfl rfl rfl rfl ?_
                                    refine Plan.extract (v := .int _ _) rfl rfl rfl rfl ?_
                                    refine Plan.assign (v := .slice _ _ _) rfl rfl rfl ?_
                                    refine Plan.assign (v := .int _ _) rfl rfl rfl ?_
                                    refine Plan.done ?_
                                    refine HW.seq (HW.region [(0, .st), (1, .st), (2, .ef), (3, .st), (4, .st), (5, .st), (6, .st), (7, .st)] rfl rfl ?_)
                                    refine Plan.move (v := .slice _ _ _) rfl rfl rfl ?_
                                    refine Plan.move (v := .slice _ _ _) rfl rfl rfl ?_
                                    refine Plan.callF [] 0 rfl rfl rfl (.inl rfl) (by simp) (fun w hm => (by have h5 := Overlap_ct (at0 o1) (at0 o2) (p.map (vAdd u)) (p.map (vAdd t)) (p.map (vAdd u)).length d1 (p.map (vAdd t)).length d2 w (Res.own_rd enc2 (hm.res (ownV o1 d1 (p.map (vAdd u))) (by simp))) (Res.own_rd enc2 (hm.res (ownV o2 d2 (p.map (vAdd t))) (by simp))) rfl rfl (by simp; omega) (by simp; omega); rw [hpo] at h5; exact h5)) ?_   -- tinplate/convex.Overlap
                                    rintro v Ln ⟨rfl, rfl⟩
                                    refine Plan.move (v := .tuple _) rfl rfl rfl ?_
                                    refine Plan.extract (v := .bool _) rfl rfl rfl rfl ?_
                                    refine Plan.extract (v := .int _ _) rfl rfl rfl rfl ?_
                                    refine Plan.assign (v := .bool _) rfl rfl rfl ?_
                                    refine Plan.assign (v := .int _ _) rfl rfl rfl ?_
                                    refine Plan.done ?_
                                    refine HW.seq (HW.region [(0, .st), (1, .st), (2, .st), (3, .st), (4, .st), (5, .st), (6, .st), (7, .st), (8, .st), (9, .st), (10, .st), (11, .al), (12, .ef)] rfl rfl ?_)
                                    refine Plan.fieldAddr rfl rfl fldV0 rfl ?_
                                    refine Plan.load (v := .int _ _) rfl rfl aggI rfl (Sees.one 4 rfl rfl) ?_
                                    refine Plan.fieldAddr rfl rfl fldV0 rfl ?_
                                    refine Plan.load (v := .int _ _) rfl rfl aggI rfl (Sees.one 5 rfl rfl) ?_
                                    refine Plan.arithI rfl rfl rfl rfl rfl (by omega) ?_
                                    refine Plan.fieldAddr rfl rfl fldV1 rfl ?_
                                    refine Plan.load (v := .int _ _) rfl rfl aggI rfl (Sees.one 4 rfl rfl) ?_
                                    refine Plan.fieldAddr rfl rfl fldV1 rfl ?_
                                    refine Plan.load (v := .int _ _) rfl rfl aggI rfl (Sees.one 5 rfl rfl) ?_
                                    refine Plan.arithI rfl rfl rfl rfl rfl (by omega) ?_
                                    refine Plan.build rfl rfl rfl (bldV _ _) ?_
                                    refine Plan.alloc rfl zerV fun b23 => ?_
                                    refine Plan.storeA 0 rfl rfl hDn sizV rfl rfl rfl rfl rfl rfl ?_
                                    refine Plan.done ?_
                                    refine HW.seq (HW.region [(0, .st), (1, .st), (2, .st), (3, .st), (4, .st), (5, .st), (6, .st), (7, .st), (8, .st), (9, .st), (10, .st), (11, .st), (12, .st), (13, .st), (14, .ef), (15, .st), (16, .st), (17, .st), (18, .st), (19, .st), (20, .st), (21, .st), (22, .st), (23, .ef), (24, .st), (25, .st)] rfl rfl ?_)
                                    refine Plan.move (v := .int _ _) rfl rfl rfl ?_
                                    refine Plan.cmp2 rfl rfl rfl rfl rfl (fun h164 => ?_) (fun h164 => ?_)
                                    · replace h164 := of_decide_eq_true h164
                                      refine Plan.move (v := .bool _) rfl rfl rfl ?_
                                      refine Plan.move (v := .int _ _) rfl rfl rfl ?_
                                      refine Plan.cmp2 rfl rfl rfl rfl rfl (fun h167 => ?_) (fun h167 => ?_)
                                      · replace h167 := of_decide_eq_true h167
                                        refine Plan.pick (v := .bool _) rfl rfl rfl rfl ?_
                                        refine Plan.move (v := .bool _) rfl rfl rfl ?_
                                        refine Plan.move (v := .int _ _) rfl rfl rfl ?_
                                        refine Plan.cmp2 rfl rfl rfl rfl rfl (fun h171 => ?_) (fun h171 => ?_)
                                        · replace h171 := of_decide_eq_true h171
                                          refine Plan.pick (v := .bool _) rfl rfl rfl rfl ?_
                                          refine Plan.move (v := .bool _) rfl rfl rfl ?_
                                          refine Plan.move (v := .bool _) rfl rfl rfl ?_
                                          refine Plan.move (v := .slice _ _ _) rfl rfl rfl ?_
                                          refine Plan.loadAll 0 rfl rfl aggV sizV rfl rfl rfl ?_
                                          refine Plan.callF [] 0 rfl rfl rfl (.inl rfl) (by simp) (fun w hm => collide_ct A p (t.1 - u.1, t.2 - u.2) _ c w (hp.mem hm) rfl hb) ?_   -- tinplate/tinplateref04.Collide
                                          rintro v Ln ⟨rfl, rfl⟩
                                          refine Plan.splitB (fun h177 => ?_) (fun h177 => ?_)
                                          · skip
                                            refine Plan.move (v := .bool _) rfl rfl rfl ?_
                                            refine Plan.no rfl rfl ?_
                                            refine Plan.no rfl rfl ?_
                                            refine Plan.no rfl rfl ?_
                                            refine Plan.pick (v := .bool _) rfl rfl rfl rfl ?_
                                            refine Plan.eqB rfl rfl undB rfl rfl ?_
                                            refine Plan.pick (v := .bool _) rfl rfl rfl rfl ?_
                                            refine Plan.move (v := .bool _) rfl rfl rfl ?_
                                            refine Plan.callF [] 0 rfl rfl rfl (.inl rfl) (by simp) (fun w hm => alive_ct w) ?_   -- tinplate/tinplatelaw04.alive
                                            rintro v Ln ⟨rfl, rfl⟩
                                            refine Plan.splitB (fun h186 => ?_) (fun h186 => ?_)
                                            · skip
                                              refine Plan.pick (v := .bool _) rfl rfl rfl rfl ?_
                                              refine Plan.assign (v := .bool _) rfl rfl rfl ?_
                                              refine Plan.done ?_
                                              exact HW.ret ⟨rfl, _, [], .tmp rfl .nil, List.nil_sublist _, rfl, rfl⟩
                                            · skip
                                              exact absurd h186 (by decide)
                                          · skip
                                            refine Plan.move (v := .bool _) rfl rfl rfl ?_
                                            refine Plan.loadAll 0 rfl rfl aggV sizV rfl rfl rfl ?_
                                            refine Plan.build rfl rfl rfl (bld0) ?_
                                            refine Plan.eqV ((t.1 - u.1, t.2 - u.2)) ((0, 0)) rfl rfl rfl rfl rfl (fun h181 => ?_) (fun h181 => ?_)
                                            · skip
                                              refine Plan.pick (v := .bool _) rfl rfl rfl rfl ?_
                                              refine Plan.eqB rfl rfl undB rfl rfl ?_
                                              refine Plan.pick (v := .bool _) rfl rfl rfl rfl ?_
                                              refine Plan.move (v := .bool _) rfl rfl rfl ?_
                                              refine Plan.callF [] 0 rfl rfl rfl (.inl rfl) (by simp) (fun w hm => alive_ct w) ?_   -- tinplate/tinplatelaw04.alive
                                              rintro v Ln ⟨rfl, rfl⟩
                                              refine Plan.splitB (fun h186 => ?_) (fun h186 => ?_)
                                              · skip
                                                refine Plan.pick (v := .bool _) rfl rfl rfl rfl ?_
                                                refine Plan.assign (v := .bool _) rfl rfl rfl ?_
                                                refine Plan.done ?_
                                                exact HW.ret ⟨rfl, _, [], .tmp rfl .nil, List.nil_sublist _, rfl, rfl⟩
                                              · skip
                                                exact absurd h186 (by decide)
                                            · skip
                                              rw [h177, decide_eq_false h181] at hx; cases hx
                                        · replace h171 := of_decide_eq_false h171
                                          exact absurd rfl h171
                                      · replace h167 := of_decide_eq_false h167
                                        exact absurd rfl h167
                                    · replace h164 := of_decide_eq_false h164
                                      exact absurd rfl h164
              · skip
                exact absurd h80 (by rw [show hasG (x, y, z) (v.1, v.2) = true from hv2]; decide)
          · replace h61 := of_decide_eq_false h61
            exact absurd rfl h61
  · skip
    exact absurd h60 (of_decide_eq_false h25)

set_option maxRecDepth 100000 in
set_option maxHeartbeats 2000000 in
theorem Wits_yf (A : Option Addr) (p : List Pt) (n c : Nat) (x y z : Int) (u t : Pt) (w : World) (hp : Rd enc 2 w A p) (hn : n = p.length) (h60 : p.length ≤ 60) (hb : blankF p = true) (hg : goodG (x, y, z) = true) (hadm : admB p (x, y, z) = false)
    (hin : -900 ≤ u.1 ∧ u.1 ≤ 900 ∧ -900 ≤ u.2 ∧ u.2 ≤ 900 ∧ -900 ≤ t.1 ∧ t.1 ≤ 900 ∧ -900 ≤ t.2 ∧ t.2 ≤ 900) (hx : (collB p (t.1 - u.1, t.2 - u.2) || decide ((t.1 - u.1, t.2 - u.2) = ((0, 0) : Pt))) = false) :
    Ct P 11 #[.slice A n c, gdv x y z, vc u, vc t] w [] (fun r L => r = .bool true ∧ L = []) := by
  subst hn
  have undB := undB2
  have hub : Bd2 900 u.1 u.2 := ⟨⟨by omega, by omega⟩, ⟨by omega, by omega⟩⟩
  have htb : Bd2 900 t.1 t.2 := ⟨⟨by omega, by omega⟩, ⟨by omega, by omega⟩⟩
  have hmu := (move_blank hb hub).1
  have hmt := (move_blank hb htb).1
  have hpo := pair_over hb hub htb
  rw [hx] at hpo
  refine Ct.of_body (rs := [.tmp 8]) (N := 188) (L := []) Try.func11 rfl rfl rfl (by kernel_rfl) rfl (Mem.refl w) ?_
  refine HW.seq (HW.region [(0, .ef), (1, .ef), (2, .ef), (3, .st)] rfl rfl ?_)
  refine Plan.boxA rfl rfl rfl fun b5 => ?_
  refine Plan.boxA rfl rfl rfl fun b6 => ?_
  refine Plan.boxA rfl rfl rfl fun b7 => ?_
  refine Plan.assign (v := .bool _) rfl rfl rfl ?_
  refine Plan.done ?_
  refine HW.seq ?_
  refine HW.seq (HW.region [(0, .st), (1, .ef), (2, .st)] rfl rfl ?_)
  refine Plan.move (v := .slice _ _ _) rfl rfl rfl ?_
  refine Plan.callF [] 0 rfl rfl rfl (.inl rfl) (by simp) (fun w hm => few_ct A p _ c w rfl) ?_   -- tinplate/tinplatelaw04.few
  rintro v Ln ⟨rfl, rfl⟩
  refine Plan.splitB (fun h25 => ?_) (fun h25 => ?_)
  · skip
    refine Plan.not rfl rfl rfl ?_
    refine Plan.done ?_
    refine HW.cond_false rfl ?_
    refine HW.skip ?_
    refine HW.seq (HW.region [(0, .st), (1, .st), (2, .ef), (3, .st), (4, .st), (5, .st), (6, .st), (7, .st)] rfl rfl ?_)
    refine Plan.move (v := .slice _ _ _) rfl rfl rfl ?_
    refine Plan.loadAll 2 rfl rfl aggGrid sizGrid rfl rfl rfl ?_
    refine Plan.callF [] 0 rfl rfl rfl (.inl rfl) (by simp) (fun w hm => (by have h5 := Admissible_ok A p p.length c x y z w (hp.mem hm) rfl (by omega) hb hg; rw [hadm] at h5; exact h5)) ?_   -- tinplate/blank.Admissible
    rintro v Ln ⟨rfl, rfl⟩
    refine Plan.move (v := .tuple _) rfl rfl rfl ?_
    refine Plan.extract (v := .bool _) rfl rfl rfl rfl ?_
    refine Plan.extract (v := .int _ _) rfl rfl rfl rfl ?_
    refine Plan.assign (v := .bool _) rfl rfl rfl ?_
    refine Plan.assign (v := .int _ _) rfl rfl rfl ?_
    refine Plan.done ?_
    refine HW.seq (HW.region [(0, .st), (1, .st), (2, .ef), (3, .st), (4, .st), (5, .st), (6, .al), (7, .ef), (8, .st)] rfl rfl ?_)
    refine Plan.move (v := .slice _ _ _) rfl rfl rfl ?_
    refine Plan.loadAll 2 rfl rfl aggGrid sizGrid rfl rfl rfl ?_
    refine Plan.callF [] 0 rfl rfl rfl (.inl rfl) (by simp) (fun w hm => WitnessB_ok A p _ c x y z w (hp.mem hm) rfl (by omega) hb hg) ?_   -- tinplate/blank.Witness
    rintro v Ln ⟨v, e, hw, rfl, rfl⟩
    have hw2 : e = 0 ∧ v ∈ hits p ∧ hasG (x, y, z) v = true := by
      rcases hw with ⟨h1, h2, h3⟩ | ⟨h0, ⟨h1, h2⟩, _⟩
      · have h4 : (hits p).any (hasG (x, y, z)) = false := by
          rw [List.any_eq_false]
          intro q hq
          rw [h3 q hq]
          decide
        rw [admB, h4] at hadm; cases hadm
      · exact ⟨h0, h1, h2⟩
    obtain ⟨rfl, hv1, hv2⟩ := hw2
    have hvb := hits_bd hv1
    have hvb9 : Bd2 900 v.1 v.2 := ⟨hvb.1.mono (by omega), hvb.2.mono (by omega)⟩
    have hmv := (move_blank hb hvb9).1
    have hov : OverlapF p (p.map (vAdd v)) = (true, 0) := by
      have h7 : hitB p v = true := by
        simp only [hitsN, List.mem_filter] at hv1
        exact hv1.2
      rw [hitB_eq hb hvb9] at h7
      simp only [Bool.and_eq_true] at h7
      rw [over_move hb hvb9, h7.1]
    refine Plan.move (v := .tuple _) rfl rfl rfl ?_
    refine Plan.extract (v := .agg _) rfl rfl rfl rfl ?_
    refine Plan.extract (v := .int _ _) rfl rfl rfl rfl ?_
    refine Plan.alloc rfl zerV fun b11 => ?_
    refine Plan.storeA 0 rfl rfl hDn sizV rfl rfl rfl rfl rfl rfl ?_
    refine Plan.assign (v := .int _ _) rfl rfl rfl ?_
    refine Plan.done ?_
    refine HW.seq ?_
    refine HW.seq (HW.region [(0, .st), (1, .st)] rfl rfl ?_)
    refine Plan.move (v := .int _ _) rfl rfl rfl ?_
    refine Plan.cmp2 rfl rfl rfl rfl rfl (fun h41 => ?_) (fun h41 => ?_)
    · replace h41 := ne_of_t h41
      exact absurd rfl h41
    · replace h41 := eq_of_f h41
      refine Plan.done ?_
      refine HW.cond_false rfl ?_
      refine HW.skip ?_
      refine HW.seq ?_
      refine HW.seq (HW.region [(0, .st), (1, .st), (2, .st), (3, .st), (4, .st), (5, .st), (6, .st), (7, .st), (8, .st), (9, .st), (10, .st), (11, .st)] rfl rfl ?_)
      refine Plan.move (v := .bool _) rfl rfl rfl ?_
      refine Plan.move (v := .int _ _) rfl rfl rfl ?_
      refine Plan.cmp2 rfl rfl rfl rfl rfl (fun h50 => ?_) (fun h50 => ?_)
      · replace h50 := of_decide_eq_true h50
        exact absurd h50 (by decide)
      · replace h50 := of_decide_eq_false h50
        refine Plan.neB rfl rfl undB rfl rfl ?_
        refine Plan.move (v := .bool _) rfl rfl rfl ?_
        refine Plan.move (v := .int _ _) rfl rfl rfl ?_
        refine Plan.cmp2 rfl rfl rfl rfl rfl (fun h54 => ?_) (fun h54 => ?_)
        · replace h54 := ne_of_t h54
          exact absurd rfl h54
        · replace h54 := eq_of_f h54
          refine Plan.move (v := .bool _) rfl rfl rfl ?_
          refine Plan.no rfl rfl ?_
          refine Plan.no rfl rfl ?_
          refine Plan.pick (v := .bool _) rfl rfl rfl rfl ?_
          refine Plan.pick (v := .bool _) rfl rfl rfl rfl ?_
          refine Plan.done ?_
          refine HW.cond_false rfl ?_
          refine HW.skip ?_
          refine HW.seq ?_
          refine HW.seq (HW.region [(0, .st), (1, .st)] rfl rfl ?_)
          refine Plan.move (v := .int _ _) rfl rfl rfl ?_
          refine Plan.cmp2 rfl rfl rfl rfl rfl (fun h61 => ?_) (fun h61 => ?_)
          · replace h61 := of_decide_eq_true h61
            refine Plan.done ?_
            refine HW.cond_true rfl ?_
            refine HW.seq (HW.region [(0, .st), (1, .st), (2, .ef), (3, .st), (4, .st), (5, .st), (6, .st), (7, .st)] rfl rfl ?_)
            refine Plan.move (v := .slice _ _ _) rfl rfl rfl ?_
            refine Plan.loadAll 0 rfl rfl aggV sizV rfl rfl rfl ?_
            refine Plan.callF [] 0 rfl rfl rfl (.inl rfl) (by simp) (fun w hm => (by have h5 := Move_ct A p v p.length c w (hp.mem hm) rfl (by omega); rw [hmv] at h5; exact h5)) ?_   -- tinplate/convex.Move
            rintro v Ln ⟨o, c1, rfl, rfl⟩
            refine Plan.move (v := .tuple _) rfl rfl rfl ?_
            refine Plan.extract (v := .slice _ _ _) rfl rfl rfl rfl ?_
            refine Plan.extract (v := .int _ _) rfl rfl rfl rfl ?_
            refine Plan.assign (v := .slice _ _ _) rfl rfl rfl ?_
            refine Plan.assign (v := .int _ _) rfl rfl rfl ?_
            refine Plan.done ?_
            refine HW.seq (HW.region [(0, .st), (1, .st), (2, .ef), (3, .st), (4, .st), (5, .st), (6, .st), (7, .st)] rfl rfl ?_)
            refine Plan.move (v := .slice _ _ _) rfl rfl rfl ?_
            refine Plan.move (v := .slice _ _ _) rfl rfl rfl ?_
            refine Plan.callF [] 0 rfl rfl rfl (.inl rfl) (by simp) (fun w hm => (by have h5 := Overlap_ct A (at0 o) p (p.map (vAdd v)) p.length c (p.map (vAdd v)).length c1 w (hp.mem hm) (Res.own_rd enc2 (hm.res (ownV o c1 (p.map (vAdd v))) (by simp))) rfl rfl (by omega) (by simp; omega); rw [hov] at h5; exact h5)) ?_   -- tinplate/convex.Overlap
            rintro v Ln ⟨rfl, rfl⟩
            refine Plan.move (v := .tuple _) rfl rfl rfl ?_
            refine Plan.extract (v := .bool _) rfl rfl rfl rfl ?_
            refine Plan.extract (v := .int _ _) rfl rfl rfl rfl ?_
            refine Plan.assign (v := .bool _) rfl rfl rfl ?_
            refine Plan.assign (v := .int _ _) rfl rfl rfl ?_
            refine Plan.done ?_
            refine HW.seq (HW.region [(0, .st), (1, .st), (2, .st), (3, .st), (4, .st), (5, .st), (6, .ef), (7, .st), (8, .st), (9, .st), (10, .st), (11, .st), (12, .st), (13, .st), (14, .st), (15, .st), (16, .st), (17, .st), (18, .st), (19, .st), (20, .st)] rfl rfl ?_)
            refine Plan.loadAll 1 rfl rfl aggV sizV rfl rfl rfl ?_
            refine Plan.build rfl rfl rfl (bld0) ?_
            refine Plan.eqV v ((0, 0)) rfl rfl rfl rfl rfl (fun h76 => ?_) (fun h76 => ?_)
            · skip
              exact absurd h76 (hits_ne hv1)
            · skip
              refine Plan.move (v := .bool _) rfl rfl rfl ?_
              refine Plan.loadAll 4 rfl rfl aggGrid sizGrid rfl rfl rfl ?_
              refine Plan.loadAll 1 rfl rfl aggV sizV rfl rfl rfl ?_
              refine Plan.callF [] 0 rfl rfl rfl (.inl rfl) (by simp) (fun w hm => inR_ct x y z _ _ w hg (hvb.1.mono (by omega)) (hvb.2.mono (by omega))) ?_   -- tinplate/tinplateref04.In
              rintro v Ln ⟨rfl, rfl⟩
              refine Plan.splitB (fun h80 => ?_) (fun h80 => ?_)
              · skip
                refine Plan.not rfl rfl rfl ?_
                refine Plan.pick (v := .bool _) rfl rfl rfl rfl ?_
                refine Plan.move (v := .bool _) rfl rfl rfl ?_
                refine Plan.move (v := .int _ _) rfl rfl rfl ?_
                refine Plan.cmp2 rfl rfl rfl rfl rfl (fun h85 => ?_) (fun h85 => ?_)
                · replace h85 := ne_of_t h85
                  exact absurd rfl h85
                · replace h85 := eq_of_f h85
                  refine Plan.pick (v := .bool _) rfl rfl rfl rfl ?_
                  refine Plan.move (v := .bool _) rfl rfl rfl ?_
                  refine Plan.move (v := .int _ _) rfl rfl rfl ?_
                  refine Plan.cmp2 rfl rfl rfl rfl rfl (fun h89 => ?_) (fun h89 => ?_)
                  · replace h89 := ne_of_t h89
                    exact absurd rfl h89
                  · replace h89 := eq_of_f h89
                    refine Plan.pick (v := .bool _) rfl rfl rfl rfl ?_
                    refine Plan.move (v := .bool _) rfl rfl rfl ?_
                    refine Plan.move (v := .bool _) rfl rfl rfl ?_
                    refine Plan.not rfl rfl rfl ?_
                    refine Plan.pick (v := .bool _) rfl rfl rfl rfl ?_
                    refine Plan.done ?_
                    refine HW.cond_false rfl ?_
                    refine HW.skip ?_
                    refine HW.seq ?_
                    refine HW.seq (HW.region [(0, .st), (1, .st), (2, .st), (3, .st), (4, .st), (5, .st), (6, .st), (7, .st), (8, .st), (9, .st), (10, .st), (11, .st), (12, .st), (13, .st), (14, .st), (15, .st), (16, .st), (17, .st), (18, .st), (19, .st), (20, .st), (21, .st), (22, .st), (23, .st), (24, .st), (25, .st), (26, .st), (27, .st), (28, .st), (29, .st), (30, .st), (31, .st), (32, .st), (33, .st), (34, .st), (35, .st), (36, .st), (37, .st)] rfl rfl ?_)
                    refine Plan.fieldAddr rfl rfl fldV0 rfl ?_
                    refine Plan.load (v := .int _ _) rfl rfl aggI rfl (Sees.one 3 rfl rfl) ?_
                    refine Plan.cmp2 rfl rfl rfl rfl rfl (fun h97 => ?_) (fun h97 => ?_)
                    · replace h97 := of_decide_eq_true h97
                      omega
                    · replace h97 := of_decide_eq_false h97
                      refine Plan.move (v := .bool _) rfl rfl rfl ?_
                      refine Plan.fieldAddr rfl rfl fldV0 rfl ?_
                      refine Plan.load (v := .int _ _) rfl rfl aggI rfl (Sees.one 3 rfl rfl) ?_
                      refine Plan.cmp2 rfl rfl rfl rfl rfl (fun h101 => ?_) (fun h101 => ?_)
                      · replace h101 := of_decide_eq_true h101
                        omega
                      · replace h101 := of_decide_eq_false h101
                        refine Plan.pick (v := .bool _) rfl rfl rfl rfl ?_
                        refine Plan.move (v := .bool _) rfl rfl rfl ?_
                        refine Plan.fieldAddr rfl rfl fldV1 rfl ?_
                        refine Plan.load (v := .int _ _) rfl rfl aggI rfl (Sees.one 3 rfl rfl) ?_
                        refine Plan.cmp2 rfl rfl rfl rfl rfl (fun h106 => ?_) (fun h106 => ?_)
                        · replace h106 := of_decide_eq_true h106
                          omega
                        · replace h106 := of_decide_eq_false h106
                          refine Plan.pick (v := .bool _) rfl rfl rfl rfl ?_
                          refine Plan.move (v := .bool _) rfl rfl rfl ?_
                          refine Plan.fieldAddr rfl rfl fldV1 rfl ?_
                          refine Plan.load (v := .int _ _) rfl rfl aggI rfl (Sees.one 3 rfl rfl) ?_
                          refine Plan.cmp2 rfl rfl rfl rfl rfl (fun h111 => ?_) (fun h111 => ?_)
                          · replace h111 := of_decide_eq_true h111
                            omega
                          · replace h111 := of_decide_eq_false h111
                            refine Plan.pick (v := .bool _) rfl rfl rfl rfl ?_
                            refine Plan.move (v := .bool _) rfl rfl rfl ?_
                            refine Plan.fieldAddr rfl rfl fldV0 rfl ?_
                            refine Plan.load (v := .int _ _) rfl rfl aggI rfl (Sees.one 2 rfl rfl) ?_
                            refine Plan.cmp2 rfl rfl rfl rfl rfl (fun h116 => ?_) (fun h116 => ?_)
                            · replace h116 := of_decide_eq_true h116
                              omega
                            · replace h116 := of_decide_eq_false h116
                              refine Plan.pick (v := .bool _) rfl rfl rfl rfl ?_
                              refine Plan.move (v := .bool _) rfl rfl rfl ?_
                              refine Plan.fieldAddr rfl rfl fldV0 rfl ?_
                              refine Plan.load (v := .int _ _) rfl rfl aggI rfl (Sees.one 2 rfl rfl) ?_
                              refine Plan.cmp2 rfl rfl rfl rfl rfl (fun h121 => ?_) (fun h121 => ?_)
                              · replace h121 := of_decide_eq_true h121
                                omega
                              · replace h121 := of_decide_eq_false h121
                                refine Plan.pick (v := .bool _) rfl rfl rfl rfl ?_
                                refine Plan.move (v := .bool _) rfl rfl rfl ?_
                                refine Plan.fieldAddr rfl rfl fldV1 rfl ?_
                                refine Plan.load (v := .int _ _) rfl rfl aggI rfl (Sees.one 2 rfl rfl) ?_
                                refine Plan.cmp2 rfl rfl rfl rfl rfl (fun h126 => ?_) (fun h126 => ?_)
                                · replace h126 := of_decide_eq_true h126
                                  omega
                                · replace h126 := of_decide_eq_false h126
                                  refine Plan.pick (v := .bool _) rfl rfl rfl rfl ?_
                                  refine Plan.move (v := .bool _) rfl rfl rfl ?_
                                  refine Plan.fieldAddr rfl rfl fldV1 rfl ?_
                                  refine Plan.load (v := .int _ _) rfl rfl aggI rfl (Sees.one 2 rfl rfl) ?_
                                  refine Plan.cmp2 rfl rfl rfl rfl rfl (fun h131 => ?_) (fun h131 => ?_)
                                  · replace h131 := of_decide_eq_true h131
                                    omega
                                  · replace h131 := of_decide_eq_false h131
                                    refine Plan.pick (v := .bool _) rfl rfl rfl rfl ?_
                                    refine Plan.done ?_
                                    refine HW.cond_false rfl ?_
                                    refine HW.skip ?_
                                    refine HW.seq (HW.region [(0, .st), (1, .st), (2, .ef), (3, .st), (4, .st), (5, .st), (6, .st), (7, .st)] rfl rfl ?_)
                                    refine Plan.move (v := .slice _ _ _) rfl rfl rfl ?_
                                    refine Plan.loadAll 3 rfl rfl aggV sizV rfl rfl rfl ?_
                                    refine Plan.callF [] 0 rfl rfl rfl (.inl rfl) (by simp) (fun w hm => (by have h5 := Move_ct A p u p.length c w (hp.mem hm) rfl (by omega); rw [hmu] at h5; exact h5)) ?_   -- tinplate/convex.Move
                                    rintro v Ln ⟨o1, d1, rfl, rfl⟩
                                    refine Plan.move (v := .tuple _) rfl rfl rfl ?_
                                    refine Plan.extract (v := .slice _ _ _) rfl rfl rfl rfl ?_
                                    refine Plan.extract (v := .int _ _) rfl rfl rfl rfl ?_
                                    refine Plan.assign (v := .slice _ _ _) rfl rfl rfl ?_
                                    refine Plan.assign (v := .int _ _) rfl rfl rfl ?_
                                    refine Plan.done ?_
                                    refine HW.seq (HW.region [(0, .st), (1, .st), (2, .ef), (3, .st), (4, .st), (5, .st), (6, .st), (7, .st)] rfl rfl ?_)
                                    refine Plan.move (v := .slice _ _ _) rfl rfl rfl ?_
                                    refine Plan.loadAll 3 rfl rfl aggV sizV rfl rfl rfl ?_
                                    refine Plan.callF [] 0 rfl rfl rfl (.inl rfl) (by simp) (fun w hm => (by have h5 := Move_ct A p t p.length c w (hp.mem hm) rfl (by omega); rw [hmt] at h5; exact h5)) ?_   -- tinplate/convex.Move
                                    rintro v Ln ⟨o2, d2, rfl, rfl⟩
                                    refine Plan.move (v := .tuple _) rfl rfl rfl ?_
                                    refine Plan.extract (v := .slice _ _ _) rfl rfl rfl rfl ?_
                                    refine Plan.extract (v := .int _ _) rfl rfl rfl rfl ?_
                                    refine Plan.assign (v := .slice _ _ _) rfl rfl rfl ?_
                                    refine Plan.assign (v := .int _ _) rfl rfl rfl ?_
                                    refine Plan.done ?_
                                    refine HW.seq (HW.region [(0, .st), (1, .st), (2, .ef), (3, .st), (4, .st), (5, .st), (6, .st), (7, .st)] rfl rfl ?_)
                                    refine Plan.move (v := .slice _ _ _) rfl rfl rfl ?_
                                    refine Plan.move (v := .slice _ _ _) rfl rfl rfl ?_
                                    refine Plan.callF [] 0 rfl rfl rfl (.inl rfl) (by simp) (fun w hm => (by have h5 := Overlap_ct (at0 o1) (at0 o2) (p.map (vAdd u)) (p.map (vAdd t)) (p.map (vAdd u)).length d1 (p.map (vAdd t)).length d2 w (Res.own_rd enc2 (hm.res (ownV o1 d1 (p.map (vAdd u))) (by simp))) (Res.own_rd enc2 (hm.res (ownV o2 d2 (p.map (vAdd t))) (by simp))) rfl rfl (by simp; omega) (by simp; omega); rw [hpo] at h5; exact h5)) ?_   -- tinplate/convex.Overlap
                                    rintro v Ln ⟨rfl, rfl⟩
                                    refine Plan.move (v := .tuple _) rfl rfl rfl ?_
                                    refine Plan.extract (v := .bool _) rfl rfl rfl rfl ?_
                                    refine Plan.extract (v := .int _ _) rfl rfl rfl rfl ?_
                                    refine Plan.assign (v := .bool _) rfl rfl rfl ?_
                                    refine Plan.assign (v := .int _ _) rfl rfl rfl ?_
                                    refine Plan.done ?_
                                    refine HW.seq (HW.region [(0, .st), (1, .st), (2, .st), (3, .st), (4, .st), (5, .st), (6, .st), (7, .st), (8, .st), (9, .st), (10, .st), (11, .al), (12, .ef)] rfl rfl ?_)
                                    refine Plan.fieldAddr rfl rfl fldV0 rfl ?_
                                    refine Plan.load (v := .int _ _) rfl rfl aggI rfl (Sees.one 4 rfl rfl) ?_
                                    refine Plan.fieldAddr rfl rfl fldV0 rfl ?_
                                    refine Plan.load (v := .int _ _) rfl rfl aggI rfl (Sees.one 5 rfl rfl) ?_
                                    refine Plan.arithI rfl rfl rfl rfl rfl (by omega) ?_
                                    refine Plan.fieldAddr rfl rfl fldV1 rfl ?_
                                    refine Plan.load (v := .int _ _) rfl rfl aggI rfl (Sees.one 4 rfl rfl) ?_
                                    refine Plan.fieldAddr rfl rfl fldV1 rfl ?_
                                    refine Plan.load (v := .int _ _) rfl rfl aggI rfl (Sees.one 5 rfl rfl) ?_
                                    refine Plan.arithI rfl rfl rfl rfl rfl (by omega) ?_
                                    refine Plan.build rfl rfl rfl (bldV _ _) ?_
                                    refine Plan.alloc rfl zerV fun b23 => ?_
                                    refine Plan.storeA 0 rfl rfl hDn sizV rfl rfl rfl rfl rfl rfl ?_
                                    refine Plan.done ?_
                                    refine HW.seq (HW.region [(0, .st), (1, .st), (2, .st), (3, .st), (4, .st), (5, .st), (6, .st), (7, .st), (8, .st), (9, .st), (10, .st), (11, .st), (12, .st), (13, .st), (14, .ef), (15, .st), (16, .st), (17, .st), (18, .st), (19, .st), (20, .st), (21, .st), (22, .st), (23, .ef), (24, .st), (25, .st)] rfl rfl ?_)
                                    refine Plan.move (v := .int _ _) rfl rfl rfl ?_
                                    refine Plan.cmp2 rfl rfl rfl rfl rfl (fun h164 => ?_) (fun h164 => ?_)
                                    · replace h164 := of_decide_eq_true h164
                                      refine Plan.move (v := .bool _) rfl rfl rfl ?_
                                      refine Plan.move (v := .int _ _) rfl rfl rfl ?_
                                      refine Plan.cmp2 rfl rfl rfl rfl rfl (fun h167 => ?_) (fun h167 => ?_)
                                      · replace h167 := of_decide_eq_true h167
                                        refine Plan.pick (v := .bool _) rfl rfl rfl rfl ?_
                                        refine Plan.move (v := .bool _) rfl rfl rfl ?_
                                        refine Plan.move (v := .int _ _) rfl rfl rfl ?_
                                        refine Plan.cmp2 rfl rfl rfl rfl rfl (fun h171 => ?_) (fun h171 => ?_)
                                        · replace h171 := of_decide_eq_true h171
                                          refine Plan.pick (v := .bool _) rfl rfl rfl rfl ?_
                                          refine Plan.move (v := .bool _) rfl rfl rfl ?_
                                          refine Plan.move (v := .bool _) rfl rfl rfl ?_
                                          refine Plan.move (v := .slice _ _ _) rfl rfl rfl ?_
                                          refine Plan.loadAll 0 rfl rfl aggV sizV rfl rfl rfl ?_
                                          refine Plan.callF [] 0 rfl rfl rfl (.inl rfl) (by simp) (fun w hm => collide_ct A p (t.1 - u.1, t.2 - u.2) _ c w (hp.mem hm) rfl hb) ?_   -- tinplate/tinplateref04.Collide
                                          rintro v Ln ⟨rfl, rfl⟩
                                          refine Plan.splitB (fun h177 => ?_) (fun h177 => ?_)
                                          · skip
                                            rw [h177] at hx; cases hx
                                          · skip
                                            refine Plan.move (v := .bool _) rfl rfl rfl ?_
                                            refine Plan.loadAll 0 rfl rfl aggV sizV rfl rfl rfl ?_
                                            refine Plan.build rfl rfl rfl (bld0) ?_
                                            refine Plan.eqV ((t.1 - u.1, t.2 - u.2)) ((0, 0)) rfl rfl rfl rfl rfl (fun h181 => ?_) (fun h181 => ?_)
                                            · skip
                                              rw [decide_eq_true h181, Bool.or_true] at hx; cases hx
                                            · skip
                                              refine Plan.pick (v := .bool _) rfl rfl rfl rfl ?_
                                              refine Plan.eqB rfl rfl undB rfl rfl ?_
                                              refine Plan.pick (v := .bool _) rfl rfl rfl rfl ?_
                                              refine Plan.move (v := .bool _) rfl rfl rfl ?_
                                              refine Plan.callF [] 0 rfl rfl rfl (.inl rfl) (by simp) (fun w hm => alive_ct w) ?_   -- tinplate/tinplatelaw04.alive
                                              rintro v Ln ⟨rfl, rfl⟩
                                              refine Plan.splitB (fun h186 => ?_) (fun h186 => ?_)
                                              · skip
                                                refine Plan.pick (v := .bool _) rfl rfl rfl rfl ?_
                                                refine Plan.assign (v := .bool _) rfl rfl rfl ?_
                                                refine Plan.done ?_
                                                exact HW.ret ⟨rfl, _, [], .tmp rfl .nil, List.nil_sublist _, rfl, rfl⟩
                                              · skip
                                                exact absurd h186 (by decide)
                                        · replace h171 := of_decide_eq_false h171
                                          exact absurd rfl h171
                                      · replace h167 := of_decide_eq_false h167
                                        exact absurd rfl h167
                                    · replace h164 := of_decide_eq_false h164
                                      exact absurd rfl h164
              · skip
                exact absurd h80 (by rw [show hasG (x, y, z) (v.1, v.2) = true from hv2]; decide)
          · replace h61 := of_decide_eq_false h61
            exact absurd rfl h61
  · skip
    exact absurd h60 (of_decide_eq_false h25)

theorem blankWitness_ct (A : Option Addr) (p : List Pt) (x y z : Int) (u t : Pt) (n c : Nat) (w : World) (hp : Rd enc 2 w A p) (hn : n = p.length) :
    Ct P 11 #[.slice A n c, gdv x y z, vc u, vc t] w [] (fun r L => r = .bool true ∧ L = []) := by
  by_cases h60 : p.length ≤ 60
  · rcases Bool.eq_false_or_eq_true (blankF p && goodG (x, y, z)) with hb | hb
    · simp only [Bool.and_eq_true] at hb
      rcases Bool.eq_false_or_eq_true (admB p (x, y, z)) with ha | ha
      · by_cases ho : u.1 < -900 ∨ 900 < u.1 ∨ u.2 < -900 ∨ 900 < u.2 ∨ t.1 < -900 ∨ 900 < t.1 ∨ t.2 < -900 ∨ 900 < t.2
        · exact Wits_no2 A p n c x y z u t w hp hn h60 hb.1 hb.2 ha ho
        · rcases Bool.eq_false_or_eq_true (collB p (t.1 - u.1, t.2 - u.2) || decide ((t.1 - u.1, t.2 - u.2) = ((0, 0) : Pt))) with hx | hx
          · exact Wits_nt A p n c x y z u t w hp hn h60 hb.1 hb.2 ha (by omega) hx
          · exact Wits_nf A p n c x y z u t w hp hn h60 hb.1 hb.2 ha (by omega) hx
      · by_cases ho : u.1 < -900 ∨ 900 < u.1 ∨ u.2 < -900 ∨ 900 < u.2 ∨ t.1 < -900 ∨ 900 < t.1 ∨ t.2 < -900 ∨ 900 < t.2
        · exact Wits_yo A p n c x y z u t w hp hn h60 hb.1 hb.2 ha ho
        · rcases Bool.eq_false_or_eq_true (collB p (t.1 - u.1, t.2 - u.2) || decide ((t.1 - u.1, t.2 - u.2) = ((0, 0) : Pt))) with hx | hx
          · exact Wits_yt A p n c x y z u t w hp hn h60 hb.1 hb.2 ha (by omega) hx
          · exact Wits_yf A p n c x y z u t w hp hn h60 hb.1 hb.2 ha (by omega) hx
    · exact Wits_no A p n c x y z u t w hp hn h60 hb
  · exact Wits_far A p n c x y z u t w hn h60

end Go.Proofs.Ytjmklbkcpjmcaaa.V
