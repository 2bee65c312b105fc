/-
  copied; the law ConvexLooks.
-/
import Derived.Test.YtoghphikfkdkmaaV24
import Derived.Test.YtoghphikfkdkmaaV17
namespace Go.Proofs.Ytoghphikfkdkmaa.V
open Go Go.RowKit Go.Proofs.Ytoghphikfkdkmaa.H
set_option linter.unusedVariables false
set_option linter.unusedSimpArgs false

theorem copied_ct (A : Option Addr) (ps : List Pt) (n c : Nat) (w : World) (hp : Rd enc 2 w A ps) (hn : n = ps.length) (hlen : ps.length ≤ 1000000) :
    Ct P 14 #[.slice A n c] w [] (fun r L => ∃ o c', r = slv o ps.length c' ∧ L = [ownV o c' ps]) := by
  subst hn
  refine Ct.of_body (rs := [.tmp 2]) (N := 6) (L := []) Try.func14 rfl rfl rfl (by kernel_rfl) rfl (Mem.refl w) ?_
  refine HW.seq (HW.region [(0, .st)] rfl rfl ?_)
  refine Plan.assign (v := .slice _ _ _) rfl rfl rfl ?_
  refine Plan.done ?_
  refine HW.seq (HW.region [(0, .ef), (1, .st), (2, .ef), (3, .st)] rfl rfl ?_)
  refine Plan.buildOwn (xs := []) (enc := enc) (sz := 2) rfl rfl rfl (bs0) rfl rfl (by simp) rfl fun b3 => ?_
  refine Plan.move (v := .slice _ _ _) rfl rfl rfl ?_
  cases A with
  | none =>
    have h0 : ps = [] := by
      cases ps with
      | nil => rfl
      | cons x l => obtain ⟨a, e, _⟩ := hp 0 (by simp); cases e
    subst h0
    refine Plan.appendNil rfl rfl rfl slV ⟨_, rfl⟩ rfl rfl (Nat.le_refl _) ?_
    refine Plan.assign (v := .slice _ _ _) rfl rfl rfl ?_
    refine Plan.done ?_
    exact HW.ret ⟨rfl, _, [ownV (some b3) 0 []], .tmp rfl .nil, List.Sublist.refl _, some b3, 0, rfl, rfl⟩
  | some a =>
    refine Plan.append (enc := enc) (sz := 2) (ys := ps) 0 rfl rfl hDn slV infV rfl (by decide) enc2 enc1 rfl rfl rfl rfl rfl (Sees.rdAll enc2 hp rfl) (by simp; omega) (by simp; omega) fun o' c' => ?_
    refine Plan.assign (v := .slice _ _ _) rfl rfl rfl ?_
    refine Plan.done ?_
    exact HW.ret ⟨rfl, _, [ownV o' c' ps], .tmp rfl .nil, List.Sublist.refl _, o', c', by simp; rfl, rfl⟩

set_option maxRecDepth 10000 in
set_option maxHeartbeats 2000000 in
theorem looks_ct (A : Option Addr) (p : List Pt) (v : Pt) (n c : Nat) (w : World) (hp : Rd enc 2 w A p) (hn : n = p.length) :
    Ct P 4 #[.slice A n c, vc v] w [] (fun v L => v = .bool true ∧ L = []) := by
  subst hn
  refine Ct.of_body (rs := [.tmp 4]) (N := 116) (L := []) Try.func4 rfl rfl rfl (by kernel_rfl) rfl (Mem.refl w) ?_
  refine HW.seq (HW.region [(0, .ef), (1, .st)] rfl rfl ?_)
  refine Plan.boxA rfl rfl rfl fun b3 => ?_
  refine Plan.assign (v := .bool _) rfl rfl rfl ?_
  refine Plan.done ?_
  refine HW.seq ?_
  refine HW.seq (HW.region [(0, .st), (1, .ef), (2, .st)] rfl rfl ?_)
  refine Plan.move (v := .slice _ _ _) rfl rfl rfl ?_
  refine Plan.callF [] 0 rfl rfl rfl (.inl rfl) (by simp) (fun w hm => few_ct A p _ c w rfl) ?_   -- tinplate/tinplatelaw03.few
  rintro v Ln ⟨rfl, rfl⟩
  refine Plan.splitB (fun h13 => ?_) (fun h13 => ?_)
  · skip
    have l1 := of_decide_eq_true h13
    refine Plan.not rfl rfl rfl ?_
    refine Plan.done ?_
    refine HW.cond_false rfl ?_
    refine HW.skip ?_
    refine HW.seq (HW.region [(0, .st), (1, .ef), (2, .st)] rfl rfl ?_)
    refine Plan.move (v := .slice _ _ _) rfl rfl rfl ?_
    refine Plan.callF [] 0 rfl rfl rfl (.inl rfl) (by simp) (fun w hm => copied_ct A p _ c w (hp.mem hm) rfl (by omega)) ?_   -- tinplate/tinplatelaw03.copied
    rintro v Ln ⟨o1, d1, rfl, rfl⟩
    refine Plan.assign (v := .slice _ _ _) rfl rfl rfl ?_
    refine Plan.done ?_
    refine HW.seq (HW.region [(0, .st), (1, .ef), (2, .st), (3, .st), (4, .st), (5, .st), (6, .st)] rfl rfl ?_)
    refine Plan.move (v := .slice _ _ _) rfl rfl rfl ?_
    refine Plan.callF [] 0 rfl rfl rfl (.inl rfl) (by simp) (fun w hm => Area_ct (at0 o1) p _ d1 w (Res.own_rd enc2 (hm.res (ownV o1 d1 p) (by simp))) rfl (by omega)) ?_   -- tinplate/convex.Area
    rintro v Ln ⟨rfl, rfl⟩
    refine Plan.move (v := .tuple _) rfl rfl rfl ?_
    refine Plan.extract (v := .int _ _) rfl rfl rfl rfl ?_
    refine Plan.extract (v := .int _ _) rfl rfl rfl rfl ?_
    refine Plan.assign (v := .int _ _) rfl rfl rfl ?_
    refine Plan.assign (v := .int _ _) rfl rfl rfl ?_
    refine Plan.done ?_
    refine HW.seq (HW.region [(0, .st), (1, .ef), (2, .st), (3, .st), (4, .st), (5, .st), (6, .st)] rfl rfl ?_)
    refine Plan.move (v := .slice _ _ _) rfl rfl rfl ?_
    refine Plan.callF [] 0 rfl rfl rfl (.inl rfl) (by simp) (fun w hm => rArea_ct A p _ c w (hp.mem hm) rfl) ?_   -- tinplate/tinplateref03.Area
    rintro v Ln ⟨rfl, rfl⟩
    refine Plan.move (v := .tuple _) rfl rfl rfl ?_
    refine Plan.extract (v := .int _ _) rfl rfl rfl rfl ?_
    refine Plan.extract (v := .int _ _) rfl rfl rfl rfl ?_
    refine Plan.assign (v := .int _ _) rfl rfl rfl ?_
    refine Plan.assign (v := .int _ _) rfl rfl rfl ?_
    refine Plan.done ?_
    refine HW.seq ?_
    refine HW.seq (HW.region [(0, .st), (1, .st), (2, .st), (3, .st), (4, .st), (5, .st), (6, .st), (7, .st)] rfl rfl ?_)
    refine Plan.move (v := .int _ _) rfl rfl rfl ?_
    refine Plan.move (v := .int _ _) rfl rfl rfl ?_
    refine Plan.cmp2 rfl rfl rfl rfl rfl (fun h30 => ?_) (fun h30 => ?_)
    · replace h30 := ne_of_t h30
      exact absurd rfl h30
    · replace h30 := eq_of_f h30
      refine Plan.move (v := .bool _) rfl rfl rfl ?_
      refine Plan.move (v := .int _ _) rfl rfl rfl ?_
      refine Plan.move (v := .int _ _) rfl rfl rfl ?_
      refine Plan.cmp2 rfl rfl rfl rfl rfl (fun h34 => ?_) (fun h34 => ?_)
      · replace h34 := ne_of_t h34
        exact absurd rfl h34
      · replace h34 := eq_of_f h34
        refine Plan.pick (v := .bool _) rfl rfl rfl rfl ?_
        refine Plan.done ?_
        refine HW.cond_false rfl ?_
        refine HW.skip ?_
        refine HW.seq (HW.region [(0, .st), (1, .st), (2, .ef), (3, .st), (4, .st), (5, .st), (6, .st), (7, .st)] rfl rfl ?_)
        refine Plan.move (v := .slice _ _ _) rfl rfl rfl ?_
        refine Plan.loadAll 1 rfl rfl aggV sizV rfl rfl rfl ?_
        refine Plan.callF [] 0 rfl rfl rfl (.inl rfl) (by simp) (fun w hm => Place_ct (at0 o1) p v _ d1 w (Res.own_rd enc2 (hm.res (ownV o1 d1 p) (by simp))) rfl (by omega)) ?_   -- tinplate/convex.Place
        rintro v Ln ⟨rfl, rfl⟩
        refine Plan.move (v := .tuple _) rfl rfl rfl ?_
        refine Plan.extract (v := .int _ _) rfl rfl rfl rfl ?_
        refine Plan.extract (v := .int _ _) rfl rfl rfl rfl ?_
        refine Plan.assign (v := .int _ _) rfl rfl rfl ?_
        refine Plan.assign (v := .int _ _) rfl rfl rfl ?_
        refine Plan.done ?_
        refine HW.seq (HW.region [(0, .st), (1, .st), (2, .ef), (3, .st), (4, .st), (5, .st), (6, .st), (7, .st)] rfl rfl ?_)
        refine Plan.move (v := .slice _ _ _) rfl rfl rfl ?_
        refine Plan.loadAll 1 rfl rfl aggV sizV rfl rfl rfl ?_
        refine Plan.callF [] 0 rfl rfl rfl (.inl rfl) (by simp) (fun w hm => rPlace_ct A p v _ c w (hp.mem hm) rfl) ?_   -- tinplate/tinplateref03.Place
        rintro v Ln ⟨rfl, rfl⟩
        refine Plan.move (v := .tuple _) rfl rfl rfl ?_
        refine Plan.extract (v := .int _ _) rfl rfl rfl rfl ?_
        refine Plan.extract (v := .int _ _) rfl rfl rfl rfl ?_
        refine Plan.assign (v := .int _ _) rfl rfl rfl ?_
        refine Plan.assign (v := .int _ _) rfl rfl rfl ?_
        refine Plan.done ?_
        refine HW.seq ?_
        refine HW.seq (HW.region [(0, .st), (1, .st), (2, .st), (3, .st), (4, .st), (5, .st), (6, .st), (7, .st)] rfl rfl ?_)
        refine Plan.move (v := .int _ _) rfl rfl rfl ?_
        refine Plan.move (v := .int _ _) rfl rfl rfl ?_
        refine Plan.cmp2 rfl rfl rfl rfl rfl (fun h50 => ?_) (fun h50 => ?_)
        · replace h50 := ne_of_t h50
          exact absurd rfl h50
        · replace h50 := eq_of_f h50
          refine Plan.move (v := .bool _) rfl rfl rfl ?_
          refine Plan.move (v := .int _ _) rfl rfl rfl ?_
          refine Plan.move (v := .int _ _) rfl rfl rfl ?_
          refine Plan.cmp2 rfl rfl rfl rfl rfl (fun h54 => ?_) (fun h54 => ?_)
          · replace h54 := ne_of_t h54
            exact absurd rfl h54
          · replace h54 := eq_of_f h54
            refine Plan.pick (v := .bool _) rfl rfl rfl rfl ?_
            refine Plan.done ?_
            refine HW.cond_false rfl ?_
            refine HW.skip ?_
            refine HW.seq (HW.region [(0, .st), (1, .st), (2, .ef), (3, .st), (4, .st), (5, .st), (6, .st), (7, .st), (8, .st), (9, .st)] rfl rfl ?_)
            refine Plan.move (v := .slice _ _ _) rfl rfl rfl ?_
            refine Plan.loadAll 1 rfl rfl aggV sizV rfl rfl rfl ?_
            refine Plan.callF [] 0 rfl rfl rfl (.inl rfl) (by simp) (fun w hm => Extreme_ct (at0 o1) p v _ d1 w (Res.own_rd enc2 (hm.res (ownV o1 d1 p) (by simp))) rfl (by omega)) ?_   -- tinplate/convex.Extreme
            rintro v Ln ⟨rfl, rfl⟩
            refine Plan.move (v := .tuple _) rfl rfl rfl ?_
            refine Plan.extract (v := .int _ _) rfl rfl rfl rfl ?_
            refine Plan.extract (v := .int _ _) rfl rfl rfl rfl ?_
            refine Plan.extract (v := .int _ _) rfl rfl rfl rfl ?_
            refine Plan.assign (v := .int _ _) rfl rfl rfl ?_
            refine Plan.assign (v := .int _ _) rfl rfl rfl ?_
            refine Plan.assign (v := .int _ _) rfl rfl rfl ?_
            refine Plan.done ?_
            refine HW.seq (HW.region [(0, .st), (1, .st), (2, .ef), (3, .st), (4, .st), (5, .st), (6, .st), (7, .st), (8, .st), (9, .st)] rfl rfl ?_)
            refine Plan.move (v := .slice _ _ _) rfl rfl rfl ?_
            refine Plan.loadAll 1 rfl rfl aggV sizV rfl rfl rfl ?_
            refine Plan.callF [] 0 rfl rfl rfl (.inl rfl) (by simp) (fun w hm => rExtreme_ct A p v _ c w (hp.mem hm) rfl) ?_   -- tinplate/tinplateref03.Extreme
            rintro v Ln ⟨rfl, rfl⟩
            refine Plan.move (v := .tuple _) rfl rfl rfl ?_
            refine Plan.extract (v := .int _ _) rfl rfl rfl rfl ?_
            refine Plan.extract (v := .int _ _) rfl rfl rfl rfl ?_
            refine Plan.extract (v := .int _ _) rfl rfl rfl rfl ?_
            refine Plan.assign (v := .int _ _) rfl rfl rfl ?_
            refine Plan.assign (v := .int _ _) rfl rfl rfl ?_
            refine Plan.assign (v := .int _ _) rfl rfl rfl ?_
            refine Plan.done ?_
            refine HW.seq ?_
            refine HW.seq (HW.region [(0, .st), (1, .st), (2, .st), (3, .st), (4, .st), (5, .st), (6, .st), (7, .st), (8, .st), (9, .st), (10, .st), (11, .st), (12, .st)] rfl rfl ?_)
            refine Plan.move (v := .int _ _) rfl rfl rfl ?_
            refine Plan.move (v := .int _ _) rfl rfl rfl ?_
            refine Plan.cmp2 rfl rfl rfl rfl rfl (fun h72 => ?_) (fun h72 => ?_)
            · replace h72 := ne_of_t h72
              exact absurd rfl h72
            · replace h72 := eq_of_f h72
              refine Plan.move (v := .bool _) rfl rfl rfl ?_
              refine Plan.move (v := .int _ _) rfl rfl rfl ?_
              refine Plan.move (v := .int _ _) rfl rfl rfl ?_
              refine Plan.cmp2 rfl rfl rfl rfl rfl (fun h76 => ?_) (fun h76 => ?_)
              · replace h76 := ne_of_t h76
                exact absurd rfl h76
              · replace h76 := eq_of_f h76
                refine Plan.pick (v := .bool _) rfl rfl rfl rfl ?_
                refine Plan.move (v := .bool _) rfl rfl rfl ?_
                refine Plan.move (v := .int _ _) rfl rfl rfl ?_
                refine Plan.move (v := .int _ _) rfl rfl rfl ?_
                refine Plan.cmp2 rfl rfl rfl rfl rfl (fun h81 => ?_) (fun h81 => ?_)
                · replace h81 := ne_of_t h81
                  exact absurd rfl h81
                · replace h81 := eq_of_f h81
                  refine Plan.pick (v := .bool _) rfl rfl rfl rfl ?_
                  refine Plan.done ?_
                  refine HW.cond_false rfl ?_
                  refine HW.skip ?_
                  refine HW.seq (HW.region [(0, .st), (1, .ef), (2, .st), (3, .st), (4, .st), (5, .st), (6, .st), (7, .st), (8, .st)] rfl rfl ?_)
                  refine Plan.move (v := .slice _ _ _) rfl rfl rfl ?_
                  refine Plan.callF [] 0 rfl rfl rfl (.inl rfl) (by simp) (fun w hm => Points_ct (at0 o1) p _ d1 w (Res.own_rd enc2 (hm.res (ownV o1 d1 p) (by simp))) rfl (by omega)) ?_   -- tinplate/convex.Points
                  rintro v Ln ⟨rfl, rfl⟩
                  refine Plan.move (v := .tuple _) rfl rfl rfl ?_
                  refine Plan.extract (v := .int _ _) rfl rfl rfl rfl ?_
                  refine Plan.extract (v := .int _ _) rfl rfl rfl rfl ?_
                  refine Plan.extract (v := .int _ _) rfl rfl rfl rfl ?_
                  refine Plan.assign (v := .int _ _) rfl rfl rfl ?_
                  refine Plan.assign (v := .int _ _) rfl rfl rfl ?_
                  refine Plan.assign (v := .int _ _) rfl rfl rfl ?_
                  refine Plan.done ?_
                  refine HW.seq (HW.region [(0, .st), (1, .ef), (2, .st), (3, .st), (4, .st), (5, .st), (6, .st), (7, .st), (8, .st)] rfl rfl ?_)
                  refine Plan.move (v := .slice _ _ _) rfl rfl rfl ?_
                  refine Plan.callF [] 0 rfl rfl rfl (.inl rfl) (by simp) (fun w hm => rPoints_ct A p _ c w (hp.mem hm) rfl) ?_   -- tinplate/tinplateref03.Points
                  rintro v Ln ⟨rfl, rfl⟩
                  refine Plan.move (v := .tuple _) rfl rfl rfl ?_
                  refine Plan.extract (v := .int _ _) rfl rfl rfl rfl ?_
                  refine Plan.extract (v := .int _ _) rfl rfl rfl rfl ?_
                  refine Plan.extract (v := .int _ _) rfl rfl rfl rfl ?_
                  refine Plan.assign (v := .int _ _) rfl rfl rfl ?_
                  refine Plan.assign (v := .int _ _) rfl rfl rfl ?_
                  refine Plan.assign (v := .int _ _) rfl rfl rfl ?_
                  refine Plan.done ?_
                  refine HW.seq (HW.region [(0, .st), (1, .st), (2, .st), (3, .st), (4, .st), (5, .st), (6, .st), (7, .st), (8, .st), (9, .st), (10, .st), (11, .st), (12, .st), (13, .st), (14, .st), (15, .st), (16, .ef), (17, .st), (18, .st), (19, .ef), (20, .st), (21, .st)] rfl rfl ?_)
                  refine Plan.move (v := .int _ _) rfl rfl rfl ?_
                  refine Plan.move (v := .int _ _) rfl rfl rfl ?_
                  refine Plan.cmp2 rfl rfl rfl rfl rfl (fun h97 => ?_) (fun h97 => ?_)
                  · replace h97 := of_decide_eq_true h97
                    refine Plan.move (v := .bool _) rfl rfl rfl ?_
                    refine Plan.move (v := .int _ _) rfl rfl rfl ?_
                    refine Plan.move (v := .int _ _) rfl rfl rfl ?_
                    refine Plan.cmp2 rfl rfl rfl rfl rfl (fun h101 => ?_) (fun h101 => ?_)
                    · replace h101 := of_decide_eq_true h101
                      refine Plan.pick (v := .bool _) rfl rfl rfl rfl ?_
                      refine Plan.move (v := .bool _) rfl rfl rfl ?_
                      refine Plan.move (v := .int _ _) rfl rfl rfl ?_
                      refine Plan.move (v := .int _ _) rfl rfl rfl ?_
                      refine Plan.cmp2 rfl rfl rfl rfl rfl (fun h106 => ?_) (fun h106 => ?_)
                      · replace h106 := of_decide_eq_true h106
                        refine Plan.pick (v := .bool _) rfl rfl rfl rfl ?_
                        refine Plan.move (v := .bool _) rfl rfl rfl ?_
                        refine Plan.move (v := .slice _ _ _) rfl rfl rfl ?_
                        refine Plan.move (v := .slice _ _ _) rfl rfl rfl ?_
                        refine Plan.callF [] 0 rfl rfl rfl (.inl rfl) (by simp) (fun w hm => same_ct (at0 o1) A p p _ d1 _ c w (Res.own_rd enc2 (hm.res (ownV o1 d1 p) (by simp))) (hp.mem hm) rfl rfl (by omega) (by omega)) ?_   -- tinplate/tinplatelaw03.same
                        rintro v Ln ⟨rfl, rfl⟩
                        rw [decide_eq_true (rfl : p = p)]
                        refine Plan.splitB (fun h111 => ?_) (fun h111 => ?_)
                        · skip
                          refine Plan.pick (v := .bool _) rfl rfl rfl rfl ?_
                          refine Plan.move (v := .bool _) rfl rfl rfl ?_
                          refine Plan.callF [] 0 rfl rfl rfl (.inl rfl) (by simp) (fun w hm => alive_ct w) ?_   -- tinplate/tinplatelaw03.alive
                          rintro v Ln ⟨rfl, rfl⟩
                          refine Plan.splitB (fun h114 => ?_) (fun h114 => ?_)
                          · skip
                            refine Plan.pick (v := .bool _) rfl rfl rfl rfl ?_
                            refine Plan.assign (v := .bool _) rfl rfl rfl ?_
                            refine Plan.done ?_
                            exact HW.ret ⟨rfl, _, [], .tmp rfl .nil, List.nil_sublist _, rfl, rfl⟩
                          · skip
                            cases h114
                        · skip
                          cases h111
                      · replace h106 := of_decide_eq_false h106
                        exact absurd rfl h106
                    · replace h101 := of_decide_eq_false h101
                      exact absurd rfl h101
                  · replace h97 := of_decide_eq_false h97
                    exact absurd rfl h97
  · skip
    refine Plan.not rfl rfl rfl ?_
    refine Plan.done ?_
    refine HW.cond_true rfl ?_
    refine HW.seq (HW.region [(0, .ef), (1, .st)] rfl rfl ?_)
    refine Plan.callF [] 0 rfl rfl rfl (.inl rfl) (by simp) (fun w hm => alive_ct w) ?_   -- tinplate/tinplatelaw03.alive
    rintro v Ln ⟨rfl, rfl⟩
    refine Plan.splitB (fun h15 => ?_) (fun h15 => ?_)
    · skip
      refine Plan.assign (v := .bool _) rfl rfl rfl ?_
      refine Plan.done ?_
      exact HW.ret ⟨rfl, _, [], .tmp rfl .nil, List.nil_sublist _, rfl, rfl⟩
    · skip
      cases h15

end Go.Proofs.Ytoghphikfkdkmaa.V
