/-
  alive, few (package tinplatelaw04).
-/
import Derived.Test.YtjmklbkcpjmcaaaB9
import Derived.Test.YtjmklbkcpjmcaaaB4
namespace Go.Proofs.Ytjmklbkcpjmcaaa.V
open Go Go.RowKit Go.Proofs.Ytjmklbkcpjmcaaa.H Go.Proofs.Ytjmklbkcpjmcaaa.LL
set_option linter.unusedVariables false
set_option linter.unusedSimpArgs false

theorem bsV3 (a b c d e f : Int) (w : World) : (Instr.buildSlice 22 3 #[(0, vec a b), (1, vec c d), (2, vec e f)]).run P w = .ok (.slice (some ⟨w.heap.size, 0, none⟩) 3 3) (w.alloc (.cells #[int a, int b, int c, int d, int e, int f] 52 (0, 0))) := by kernel_rfl
theorem bsT2 (a b c d e f : Int) (w : World) : (Instr.buildSlice 30 2 #[(0, itv a b c), (1, itv d e f)]).run P w = .ok (.slice (some ⟨w.heap.size, 0, none⟩) 2 2) (w.alloc (.cells #[int a, int b, int c, int d, int e, int f] 37 (0, 0))) := by kernel_rfl
abbrev its2 : List It := [(2, 2, 5), (4, 1, 3)]
theorem W_its : W its2 4 3 = 13 := by decide +kernel
theorem Pl_its : Pl its2 4 3 = [(3, 1), (1, 1), (2, 2), (1, 0), (1, 0)] := by decide +kernel

theorem Densest_tri (A : Option Addr) (c : Nat) (w : World) (hp : Rd enc 2 w A tri) : Ct P 16 #[.slice A 3 c] w [] (fun r L => r = .tuple #[gdv 1 1 3, int 0] ∧ L = []) := by
  refine (Densest_ok A tri 3 c w hp rfl (by decide) blank_tri).mono ?_
  rintro r L ⟨⟨i, a, b, hd, _, rfl⟩, rfl⟩
  obtain ⟨rfl, rfl, rfl⟩ := hd.unique den_tri
  exact ⟨rfl, rfl⟩
theorem Best_its (A : Option Addr) (c : Nat) (w : World) (hp : Rd encT 3 w A its2) : Ct P 19 #[int 4, int 3, .slice A 2 c] w [] (fun r L => ∃ o c', r = .tuple #[int 13, slv o 5 c', int 0] ∧ L = [ownC o c' [(3, 1), (1, 1), (2, 2), (1, 0), (1, 0)]]) := by
  refine (Best_ok A its2 2 c 4 3 w hp rfl (by decide) (by decide) (by decide) (by decide) (by decide) (by decide)).mono ?_
  rintro r L ⟨o, c', rfl, rfl⟩
  exact ⟨o, c', by rw [W_its, Pl_its]; rfl, by rw [Pl_its]⟩

theorem alive_ct (w : World) : Ct P 15 #[] w [] (fun v L => v = .bool true ∧ L = []) := by
  refine Ct.of_body (rs := [.tmp 0]) (N := 49) (L := []) Try.func15 rfl rfl rfl (by kernel_rfl) rfl (Mem.refl w) ?_
  refine HW.seq (HW.region [(0, .st)] rfl rfl ?_)
  refine Plan.assign (v := .bool _) rfl rfl rfl ?_
  refine Plan.done ?_
  refine HW.seq (HW.region [(0, .st), (1, .st), (2, .st), (3, .ef), (4, .ef), (5, .st), (6, .st), (7, .st), (8, .al), (9, .ef), (10, .st)] rfl rfl ?_)
  refine Plan.build rfl rfl rfl (bldV _ _) ?_
  refine Plan.build rfl rfl rfl (bldV _ _) ?_
  refine Plan.build rfl rfl rfl (bldV _ _) ?_
  refine Plan.buildOwn (xs := tri) (enc := enc) (sz := 2) rfl rfl rfl (bsV3 _ _ _ _ _ _) rfl rfl (by simp) rfl fun b10 => ?_
  refine Plan.callF [] 0 rfl rfl rfl (.inl rfl) (by simp) (fun w hm => Densest_tri (some ⟨b10, 0, none⟩) 3 w (Res.own_rd enc2 (hm.res _ List.mem_cons_self))) ?_   -- tinplate/blank.Densest
  rintro v Ln ⟨rfl, rfl⟩
  refine Plan.move (v := .tuple _) rfl rfl rfl ?_
  refine Plan.extract (v := .agg _) rfl rfl rfl rfl ?_
  refine Plan.extract (v := .int _ _) rfl rfl rfl rfl ?_
  refine Plan.alloc rfl zerGrid fun b1 => ?_
  refine Plan.storeA 0 rfl rfl hDn sizGrid rfl rfl rfl rfl rfl rfl ?_
  refine Plan.assign (v := .int _ _) rfl rfl rfl ?_
  refine Plan.done ?_
  refine HW.seq (HW.region [(0, .st), (1, .st), (2, .ef), (3, .ef), (4, .st), (5, .st), (6, .st), (7, .st), (8, .st), (9, .st), (10, .st)] rfl rfl ?_)
  refine Plan.build rfl rfl rfl (bldItem _ _ _) ?_
  refine Plan.build rfl rfl rfl (bldItem _ _ _) ?_
  refine Plan.buildOwn (xs := its2) (enc := encT) (sz := 3) rfl rfl rfl (bsT2 _ _ _ _ _ _) rfl rfl (by simp) rfl fun b17 => ?_
  refine Plan.callF [] 0 rfl rfl rfl (.inl rfl) (by simp) (fun w hm => Best_its (some ⟨b17, 0, none⟩) 2 w (Res.own_rd encT3 (hm.res _ List.mem_cons_self))) ?_   -- tinplate/blank.Best
  rintro v Ln ⟨o, c1, rfl, rfl⟩
  refine Plan.move (v := .tuple _) rfl rfl rfl ?_
  refine Plan.extract (v := .int _ _) rfl rfl rfl rfl ?_
  refine Plan.extract (v := .slice _ _ _) rfl rfl rfl rfl ?_
  refine Plan.extract (v := .int _ _) rfl rfl rfl rfl ?_
  refine Plan.assign (v := .int _ _) rfl rfl rfl ?_
  refine Plan.assign (v := .slice _ _ _) rfl rfl rfl ?_
  refine Plan.assign (v := .int _ _) rfl rfl rfl ?_
  refine Plan.done ?_
  refine HW.pure (p := ∃ b, o = some b) (fun w' hm => Res.own_some (hm.res _ List.mem_cons_self) (by decide)) fun hob => ?_
  obtain ⟨bo, rfl⟩ := hob
  refine HW.seq (HW.region [(0, .st), (1, .st), (2, .st), (3, .st), (4, .st), (5, .st), (6, .st), (7, .st), (8, .st), (9, .st), (10, .st), (11, .st), (12, .st), (13, .st), (14, .st), (15, .st), (16, .st), (17, .st), (18, .st), (19, .st), (20, .st), (21, .st), (22, .st), (23, .st), (24, .st), (25, .st), (26, .st), (27, .st)] rfl rfl ?_)
  refine Plan.move (v := .int _ _) rfl rfl rfl ?_
  refine Plan.cmp2 rfl rfl rfl rfl rfl (fun h23 => ?_) (fun h23 => ?_)
  · replace h23 := of_decide_eq_true h23
    refine Plan.move (v := .bool _) rfl rfl rfl ?_
    refine Plan.loadAll 2 rfl rfl aggGrid sizGrid rfl rfl rfl ?_
    refine Plan.build rfl rfl rfl (bldGrid _ _ _) ?_
    refine Plan.eqT eqtGrid ((1, 1, 3)) ((1, 1, 3)) rfl rfl rfl rfl rfl (fun h27 => ?_) (fun h27 => ?_)
    · skip
      refine Plan.pick (v := .bool _) rfl rfl rfl rfl ?_
      refine Plan.move (v := .bool _) rfl rfl rfl ?_
      refine Plan.move (v := .int _ _) rfl rfl rfl ?_
      refine Plan.cmp2 rfl rfl rfl rfl rfl (fun h31 => ?_) (fun h31 => ?_)
      · replace h31 := of_decide_eq_true h31
        refine Plan.pick (v := .bool _) rfl rfl rfl rfl ?_
        refine Plan.move (v := .bool _) rfl rfl rfl ?_
        refine Plan.move (v := .int _ _) rfl rfl rfl ?_
        refine Plan.cmp2 rfl rfl rfl rfl rfl (fun h35 => ?_) (fun h35 => ?_)
        · replace h35 := of_decide_eq_true h35
          refine Plan.pick (v := .bool _) rfl rfl rfl rfl ?_
          refine Plan.move (v := .bool _) rfl rfl rfl ?_
          refine Plan.move (v := .slice _ _ _) rfl rfl rfl ?_
          refine Plan.len rfl rfl slapiCut rfl ?_
          refine Plan.cmp2 rfl rfl rfl rfl rfl (fun h40 => ?_) (fun h40 => ?_)
          · replace h40 := of_decide_eq_true h40
            refine Plan.pick (v := .bool _) rfl rfl rfl rfl ?_
            refine Plan.move (v := .bool _) rfl rfl rfl ?_
            refine Plan.move (v := .slice _ _ _) rfl rfl rfl ?_
            refine Plan.indexN (0) rfl rfl slapiCut sizapiCut rfl rfl rfl rfl ((by decide)) ?_
            refine Plan.loadAgg rfl rfl aggCut sizCut rfl (Sees.own 0 enc2 rfl bo rfl 0 (by decide)) rfl ?_
            refine Plan.build rfl rfl rfl (bldCut _ _) ?_
            refine Plan.eqT eqtCut ((3, 1)) ((3, 1)) rfl rfl rfl rfl rfl (fun h47 => ?_) (fun h47 => ?_)
            · skip
              refine Plan.pick (v := .bool _) rfl rfl rfl rfl ?_
              refine Plan.assign (v := .bool _) rfl rfl rfl ?_
              refine Plan.done ?_
              exact HW.ret ⟨rfl, _, [], .tmp rfl .nil, List.nil_sublist _, rfl, rfl⟩
            · skip
              exact absurd rfl h47
          · replace h40 := of_decide_eq_false h40
            exact absurd rfl h40
        · replace h35 := of_decide_eq_false h35
          exact absurd rfl h35
      · replace h31 := of_decide_eq_false h31
        exact absurd rfl h31
    · skip
      exact absurd rfl h27
  · replace h23 := of_decide_eq_false h23
    exact absurd rfl h23

theorem few_ct (A : Option Addr) (ps : List Pt) (n c : Nat) (w : World) (hn : n = ps.length) : Ct P 14 #[.slice A n c] w [] (fun v L => v = .bool (decide (ps.length ≤ 60)) ∧ L = []) := by
  subst hn
  refine Ct.of_body (rs := [.tmp 2]) (N := 6) (L := []) Try.func14 rfl rfl rfl (by kernel_rfl) rfl (Mem.refl w) ?_
  refine HW.seq (HW.region [(0, .st)] rfl rfl ?_)
  refine Plan.assign (v := .bool _) rfl rfl rfl ?_
  refine Plan.done ?_
  refine HW.seq (HW.region [(0, .st), (1, .st), (2, .st), (3, .st)] rfl rfl ?_)
  refine Plan.move (v := .slice _ _ _) rfl rfl rfl ?_
  refine Plan.len rfl rfl slV rfl ?_
  refine Plan.cmp2 rfl rfl rfl rfl rfl (fun h5 => ?_) (fun h5 => ?_)
  · replace h5 := of_decide_eq_true h5
    refine Plan.assign (v := .bool _) rfl rfl rfl ?_
    refine Plan.done ?_
    exact HW.ret ⟨rfl, _, [], .tmp rfl .nil, List.nil_sublist _, (by rw [decide_eq_true (show ps.length ≤ 60 by omega)]; rfl), rfl⟩
  · replace h5 := of_decide_eq_false h5
    refine Plan.assign (v := .bool _) rfl rfl rfl ?_
    refine Plan.done ?_
    exact HW.ret ⟨rfl, _, [], .tmp rfl .nil, List.nil_sublist _, (by rw [decide_eq_false (show ¬ ps.length ≤ 60 by omega)]; rfl), rfl⟩

end Go.Proofs.Ytjmklbkcpjmcaaa.V
