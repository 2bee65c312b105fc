/-
  The law ConvexMeets.
-/
import Derived.Test.YtoghphikfkdkmaaV17
import Derived.Test.YtoghphikfkdkmaaV27
import Derived.Test.YtoghphikfkdkmaaVc
namespace Go.Proofs.Ytoghphikfkdkmaa.V
open Go Go.RowKit Go.Proofs.Ytoghphikfkdkmaa.H
set_option linter.unusedVariables false
set_option linter.unusedSimpArgs false

set_option maxRecDepth 10000 in
set_option maxHeartbeats 2000000 in
theorem meets_ct (A1 A2 : Option Addr) (p q : List Pt) (n1 c1 n2 c2 : Nat) (w : World) (hp : Rd enc 2 w A1 p) (hq : Rd enc 2 w A2 q) (hn1 : n1 = p.length) (hn2 : n2 = q.length) :
    Ct P 5 #[.slice A1 n1 c1, .slice A2 n2 c2] w [] (fun v L => v = .bool true ∧ L = []) := by
  subst hn1 hn2
  refine Ct.of_body (rs := [.tmp 4]) (N := 99) (L := []) Try.func5 rfl rfl rfl (by kernel_rfl) rfl (Mem.refl w) ?_
  refine HW.seq (HW.region [(0, .st)] rfl rfl ?_)
  refine Plan.assign (v := .bool _) rfl rfl rfl ?_
  refine Plan.done ?_
  refine HW.seq ?_
  refine HW.seq (HW.region [(0, .st), (1, .ef), (2, .st), (3, .st), (4, .st), (5, .ef), (6, .st), (7, .st)] rfl rfl ?_)
  refine Plan.move (v := .slice _ _ _) rfl rfl rfl ?_
  refine Plan.callF [] 0 rfl rfl rfl (.inl rfl) (by simp) (fun w hm => few_ct A1 p _ c1 w rfl) ?_   -- tinplate/tinplatelaw03.few
  rintro v Ln ⟨rfl, rfl⟩
  refine Plan.splitB (fun h14 => ?_) (fun h14 => ?_)
  · skip
    refine Plan.not rfl rfl rfl ?_
    refine Plan.move (v := .bool _) rfl rfl rfl ?_
    refine Plan.move (v := .slice _ _ _) rfl rfl rfl ?_
    refine Plan.callF [] 0 rfl rfl rfl (.inl rfl) (by simp) (fun w hm => few_ct A2 q _ c2 w rfl) ?_   -- tinplate/tinplatelaw03.few
    rintro v Ln ⟨rfl, rfl⟩
    refine Plan.splitB (fun h18 => ?_) (fun h18 => ?_)
    · skip
      have l1 := of_decide_eq_true h14
      have l2 := of_decide_eq_true h18
      refine Plan.not rfl rfl rfl ?_
      refine Plan.pick (v := .bool _) rfl rfl rfl rfl ?_
      refine Plan.done ?_
      refine HW.cond_false rfl ?_
      refine HW.skip ?_
      refine HW.seq (HW.region [(0, .st), (1, .ef), (2, .st), (3, .ef), (4, .st), (5, .st)] rfl rfl ?_)
      refine Plan.move (v := .slice _ _ _) rfl rfl rfl ?_
      refine Plan.callF [] 0 rfl rfl rfl (.inl rfl) (by simp) (fun w hm => copied_ct A1 p _ c1 w (hp.mem hm) rfl (by omega)) ?_   -- tinplate/tinplatelaw03.copied
      rintro v Ln ⟨o1, d1, rfl, rfl⟩
      refine Plan.move (v := .slice _ _ _) rfl rfl rfl ?_
      refine Plan.callF [] 0 rfl rfl rfl (.inl rfl) (by simp) (fun w hm => copied_ct A2 q _ c2 w (hq.mem hm) rfl (by omega)) ?_   -- tinplate/tinplatelaw03.copied
      rintro v Ln ⟨o2, d2, rfl, rfl⟩
      refine Plan.assign (v := .slice _ _ _) rfl rfl rfl ?_
      refine Plan.assign (v := .slice _ _ _) rfl rfl rfl ?_
      refine Plan.done ?_
      refine HW.seq (HW.region [(0, .st), (1, .st), (2, .ef), (3, .st), (4, .st), (5, .st), (6, .st), (7, .st)] rfl rfl ?_)
      refine Plan.move (v := .slice _ _ _) rfl rfl rfl ?_
      refine Plan.move (v := .slice _ _ _) rfl rfl rfl ?_
      refine Plan.callF [] 0 rfl rfl rfl (.inl rfl) (by simp) (fun w hm => Overlap_ct (at0 o1) (at0 o2) p q _ d1 _ d2 w (Res.own_rd enc2 (hm.res (ownV o1 d1 p) (by simp))) (Res.own_rd enc2 (hm.res (ownV o2 d2 q) (by simp))) rfl rfl (by omega) (by omega)) ?_   -- tinplate/convex.Overlap
      rintro v Ln ⟨rfl, rfl⟩
      refine Plan.move (v := .tuple _) rfl rfl rfl ?_
      refine Plan.extract (v := .bool _) rfl rfl rfl rfl ?_
      refine Plan.splitB (fun h30 => ?_) (fun h30 => ?_)
      · skip
        refine Plan.extract (v := .int _ _) rfl rfl rfl rfl ?_
        refine Plan.assign (v := .bool _) rfl rfl rfl ?_
        refine Plan.assign (v := .int _ _) rfl rfl rfl ?_
        refine Plan.done ?_
        refine HW.seq (HW.region [(0, .st), (1, .st), (2, .ef), (3, .st), (4, .st), (5, .st), (6, .st), (7, .st)] rfl rfl ?_)
        refine Plan.move (v := .slice _ _ _) rfl rfl rfl ?_
        refine Plan.move (v := .slice _ _ _) rfl rfl rfl ?_
        refine Plan.callF [] 0 rfl rfl rfl (.inl rfl) (by simp) (fun w hm => rOverlap_ct A1 A2 p q _ c1 _ c2 w (hp.mem hm) (hq.mem hm) rfl rfl) ?_   -- tinplate/tinplateref03.Overlap
        rintro v Ln ⟨rfl, rfl⟩
        rw [h30]
        refine Plan.move (v := .tuple _) rfl rfl rfl ?_
        refine Plan.extract (v := .bool _) rfl rfl rfl rfl ?_
        refine Plan.extract (v := .int _ _) rfl rfl rfl rfl ?_
        refine Plan.assign (v := .bool _) rfl rfl rfl ?_
        refine Plan.assign (v := .int _ _) rfl rfl rfl ?_
        refine Plan.done ?_
        refine HW.seq ?_
        refine HW.seq (HW.region [(0, .st), (1, .st), (2, .st), (3, .st), (4, .st), (5, .st), (6, .st), (7, .st)] rfl rfl ?_)
        refine Plan.move (v := .bool _) rfl rfl rfl ?_
        refine Plan.move (v := .bool _) rfl rfl rfl ?_
        refine Plan.neB rfl rfl undB rfl rfl ?_
        refine Plan.move (v := .bool _) rfl rfl rfl ?_
        refine Plan.move (v := .int _ _) rfl rfl rfl ?_
        refine Plan.move (v := .int _ _) rfl rfl rfl ?_
        refine Plan.cmp2 rfl rfl rfl rfl rfl (fun h44 => ?_) (fun h44 => ?_)
        · replace h44 := ne_of_t h44
          exact absurd rfl h44
        · replace h44 := eq_of_f h44
          refine Plan.pick (v := .bool _) rfl rfl rfl rfl ?_
          refine Plan.done ?_
          refine HW.cond_false rfl ?_
          refine HW.skip ?_
          refine HW.seq (HW.region [(0, .st), (1, .st), (2, .ef), (3, .st), (4, .st), (5, .st), (6, .al), (7, .ef), (8, .st)] rfl rfl ?_)
          refine Plan.move (v := .slice _ _ _) rfl rfl rfl ?_
          refine Plan.move (v := .slice _ _ _) rfl rfl rfl ?_
          refine Plan.callF [] 0 rfl rfl rfl (.inl rfl) (by simp) (fun w hm => Separate_ct (at0 o1) (at0 o2) p q _ d1 _ d2 w (Res.own_rd enc2 (hm.res (ownV o1 d1 p) (by simp))) (Res.own_rd enc2 (hm.res (ownV o2 d2 q) (by simp))) rfl rfl (by omega) (by omega)) ?_   -- tinplate/convex.Separate
          rintro v Ln ⟨rfl, rfl⟩
          refine Plan.move (v := .tuple _) rfl rfl rfl ?_
          refine Plan.extract (v := .agg _) rfl rfl rfl rfl ?_
          refine Plan.extract (v := .int _ _) rfl rfl rfl rfl ?_
          refine Plan.alloc rfl zerV fun b11 => ?_
          refine Plan.storeA 0 rfl rfl hDn sizV rfl rfl rfl rfl rfl rfl ?_
          refine Plan.assign (v := .int _ _) rfl rfl rfl ?_
          refine Plan.done ?_
          refine HW.seq (HW.region [(0, .st), (1, .st), (2, .ef), (3, .st), (4, .st), (5, .st), (6, .al), (7, .ef), (8, .st)] rfl rfl ?_)
          refine Plan.move (v := .slice _ _ _) rfl rfl rfl ?_
          refine Plan.move (v := .slice _ _ _) rfl rfl rfl ?_
          refine Plan.callF [] 0 rfl rfl rfl (.inl rfl) (by simp) (fun w hm => rSeparate_ct A1 A2 p q _ c1 _ c2 w (hp.mem hm) (hq.mem hm) rfl rfl) ?_   -- tinplate/tinplateref03.Separate
          rintro v Ln ⟨rfl, rfl⟩
          refine Plan.move (v := .tuple _) rfl rfl rfl ?_
          refine Plan.extract (v := .agg _) rfl rfl rfl rfl ?_
          refine Plan.extract (v := .int _ _) rfl rfl rfl rfl ?_
          refine Plan.alloc rfl zerV fun b12 => ?_
          refine Plan.storeA 0 rfl rfl hDn sizV rfl rfl rfl rfl rfl rfl ?_
          refine Plan.assign (v := .int _ _) rfl rfl rfl ?_
          refine Plan.done ?_
          refine HW.seq ?_
          refine HW.seq (HW.region [(0, .st), (1, .st), (2, .st), (3, .st), (4, .st), (5, .st), (6, .st), (7, .st)] rfl rfl ?_)
          refine Plan.loadAll 1 rfl rfl aggV sizV rfl rfl rfl ?_
          refine Plan.loadAll 0 rfl rfl aggV sizV rfl rfl rfl ?_
          refine Plan.neV (SeparateF p q).1 (SeparateF p q).1 rfl rfl rfl rfl rfl (fun h60 => ?_) (fun h60 => ?_)
          · skip
            exact absurd rfl h60
          · skip
            refine Plan.move (v := .bool _) rfl rfl rfl ?_
            refine Plan.move (v := .int _ _) rfl rfl rfl ?_
            refine Plan.move (v := .int _ _) rfl rfl rfl ?_
            refine Plan.cmp2 rfl rfl rfl rfl rfl (fun h64 => ?_) (fun h64 => ?_)
            · replace h64 := ne_of_t h64
              exact absurd rfl h64
            · replace h64 := eq_of_f h64
              refine Plan.pick (v := .bool _) rfl rfl rfl rfl ?_
              refine Plan.done ?_
              refine HW.cond_false rfl ?_
              refine HW.skip ?_
              refine HW.seq (HW.region [(0, .st), (1, .st), (2, .ef), (3, .st), (4, .st), (5, .st), (6, .st), (7, .st)] rfl rfl ?_)
              refine Plan.move (v := .slice _ _ _) rfl rfl rfl ?_
              refine Plan.move (v := .slice _ _ _) rfl rfl rfl ?_
              refine Plan.callF [] 0 rfl rfl rfl (.inl rfl) (by simp) (fun w hm => Inside_ct (at0 o1) (at0 o2) p q _ d1 _ d2 w (Res.own_rd enc2 (hm.res (ownV o1 d1 p) (by simp))) (Res.own_rd enc2 (hm.res (ownV o2 d2 q) (by simp))) rfl rfl (by omega) (by omega)) ?_   -- tinplate/convex.Inside
              rintro v Ln ⟨rfl, rfl⟩
              refine Plan.move (v := .tuple _) rfl rfl rfl ?_
              refine Plan.extract (v := .bool _) rfl rfl rfl rfl ?_
              refine Plan.splitB (fun h70 => ?_) (fun h70 => ?_)
              · skip
                refine Plan.extract (v := .int _ _) rfl rfl rfl rfl ?_
                refine Plan.assign (v := .bool _) rfl rfl rfl ?_
                refine Plan.assign (v := .int _ _) rfl rfl rfl ?_
                refine Plan.done ?_
                refine HW.seq (HW.region [(0, .st), (1, .st), (2, .ef), (3, .st), (4, .st), (5, .st), (6, .st), (7, .st)] rfl rfl ?_)
                refine Plan.move (v := .slice _ _ _) rfl rfl rfl ?_
                refine Plan.move (v := .slice _ _ _) rfl rfl rfl ?_
                refine Plan.callF [] 0 rfl rfl rfl (.inl rfl) (by simp) (fun w hm => rInside_ct A1 A2 p q _ c1 _ c2 w (hp.mem hm) (hq.mem hm) rfl rfl) ?_   -- tinplate/tinplateref03.Inside
                rintro v Ln ⟨rfl, rfl⟩
                rw [h70]
                refine Plan.move (v := .tuple _) rfl rfl rfl ?_
                refine Plan.extract (v := .bool _) rfl rfl rfl rfl ?_
                refine Plan.extract (v := .int _ _) rfl rfl rfl rfl ?_
                refine Plan.assign (v := .bool _) rfl rfl rfl ?_
                refine Plan.assign (v := .int _ _) rfl rfl rfl ?_
                refine Plan.done ?_
                refine HW.seq (HW.region [(0, .st), (1, .st), (2, .st), (3, .st), (4, .st), (5, .st), (6, .st), (7, .st), (8, .st), (9, .st), (10, .st), (11, .ef), (12, .st), (13, .st), (14, .st), (15, .st), (16, .ef), (17, .st), (18, .st), (19, .ef), (20, .st), (21, .st)] rfl rfl ?_)
                refine Plan.move (v := .bool _) rfl rfl rfl ?_
                refine Plan.move (v := .bool _) rfl rfl rfl ?_
                refine Plan.eqB rfl rfl undB rfl rfl ?_
                refine Plan.move (v := .bool _) rfl rfl rfl ?_
                refine Plan.move (v := .int _ _) rfl rfl rfl ?_
                refine Plan.move (v := .int _ _) rfl rfl rfl ?_
                refine Plan.cmp2 rfl rfl rfl rfl rfl (fun h84 => ?_) (fun h84 => ?_)
                · replace h84 := of_decide_eq_true h84
                  refine Plan.pick (v := .bool _) rfl rfl rfl rfl ?_
                  refine Plan.move (v := .bool _) rfl rfl rfl ?_
                  refine Plan.move (v := .slice _ _ _) rfl rfl rfl ?_
                  refine Plan.move (v := .slice _ _ _) rfl rfl rfl ?_
                  refine Plan.callF [] 0 rfl rfl rfl (.inl rfl) (by simp) (fun w hm => same_ct (at0 o1) A1 p p _ d1 _ c1 w (Res.own_rd enc2 (hm.res (ownV o1 d1 p) (by simp))) (hp.mem hm) rfl rfl (by omega) (by omega)) ?_   -- tinplate/tinplatelaw03.same
                  rintro v Ln ⟨rfl, rfl⟩
                  rw [decide_eq_true (rfl : p = p)]
                  refine Plan.splitB (fun h89 => ?_) (fun h89 => ?_)
                  · skip
                    refine Plan.pick (v := .bool _) rfl rfl rfl rfl ?_
                    refine Plan.move (v := .bool _) rfl rfl rfl ?_
                    refine Plan.move (v := .slice _ _ _) rfl rfl rfl ?_
                    refine Plan.move (v := .slice _ _ _) rfl rfl rfl ?_
                    refine Plan.callF [] 0 rfl rfl rfl (.inl rfl) (by simp) (fun w hm => same_ct (at0 o2) A2 q q _ d2 _ c2 w (Res.own_rd enc2 (hm.res (ownV o2 d2 q) (by simp))) (hq.mem hm) rfl rfl (by omega) (by omega)) ?_   -- tinplate/tinplatelaw03.same
                    rintro v Ln ⟨rfl, rfl⟩
                    rw [decide_eq_true (rfl : q = q)]
                    refine Plan.splitB (fun h94 => ?_) (fun h94 => ?_)
                    · skip
                      refine Plan.pick (v := .bool _) rfl rfl rfl rfl ?_
                      refine Plan.move (v := .bool _) rfl rfl rfl ?_
                      refine Plan.callF [] 0 rfl rfl rfl (.inl rfl) (by simp) (fun w hm => alive_ct w) ?_   -- tinplate/tinplatelaw03.alive
                      rintro v Ln ⟨rfl, rfl⟩
                      refine Plan.splitB (fun h97 => ?_) (fun h97 => ?_)
                      · skip
                        refine Plan.pick (v := .bool _) rfl rfl rfl rfl ?_
                        refine Plan.assign (v := .bool _) rfl rfl rfl ?_
                        refine Plan.done ?_
                        exact HW.ret ⟨rfl, _, [], .tmp rfl .nil, List.nil_sublist _, rfl, rfl⟩
                      · skip
                        cases h97
                    · skip
                      cases h94
                  · skip
                    cases h89
                · replace h84 := of_decide_eq_false h84
                  exact absurd rfl h84
              · skip
                refine Plan.extract (v := .int _ _) rfl rfl rfl rfl ?_
                refine Plan.assign (v := .bool _) rfl rfl rfl ?_
                refine Plan.assign (v := .int _ _) rfl rfl rfl ?_
                refine Plan.done ?_
                refine HW.seq (HW.region [(0, .st), (1, .st), (2, .ef), (3, .st), (4, .st), (5, .st), (6, .st), (7, .st)] rfl rfl ?_)
                refine Plan.move (v := .slice _ _ _) rfl rfl rfl ?_
                refine Plan.move (v := .slice _ _ _) rfl rfl rfl ?_
                refine Plan.callF [] 0 rfl rfl rfl (.inl rfl) (by simp) (fun w hm => rInside_ct A1 A2 p q _ c1 _ c2 w (hp.mem hm) (hq.mem hm) rfl rfl) ?_   -- tinplate/tinplateref03.Inside
                rintro v Ln ⟨rfl, rfl⟩
                rw [h70]
                refine Plan.move (v := .tuple _) rfl rfl rfl ?_
                refine Plan.extract (v := .bool _) rfl rfl rfl rfl ?_
                refine Plan.extract (v := .int _ _) rfl rfl rfl rfl ?_
                refine Plan.assign (v := .bool _) rfl rfl rfl ?_
                refine Plan.assign (v := .int _ _) rfl rfl rfl ?_
                refine Plan.done ?_
                refine HW.seq (HW.region [(0, .st), (1, .st), (2, .st), (3, .st), (4, .st), (5, .st), (6, .st), (7, .st), (8, .st), (9, .st), (10, .st), (11, .ef), (12, .st), (13, .st), (14, .st), (15, .st), (16, .ef), (17, .st), (18, .st), (19, .ef), (20, .st), (21, .st)] rfl rfl ?_)
                refine Plan.move (v := .bool _) rfl rfl rfl ?_
                refine Plan.move (v := .bool _) rfl rfl rfl ?_
                refine Plan.eqB rfl rfl undB rfl rfl ?_
                refine Plan.move (v := .bool _) rfl rfl rfl ?_
                refine Plan.move (v := .int _ _) rfl rfl rfl ?_
                refine Plan.move (v := .int _ _) rfl rfl rfl ?_
                refine Plan.cmp2 rfl rfl rfl rfl rfl (fun h84 => ?_) (fun h84 => ?_)
                · replace h84 := of_decide_eq_true h84
                  refine Plan.pick (v := .bool _) rfl rfl rfl rfl ?_
                  refine Plan.move (v := .bool _) rfl rfl rfl ?_
                  refine Plan.move (v := .slice _ _ _) rfl rfl rfl ?_
                  refine Plan.move (v := .slice _ _ _) rfl rfl rfl ?_
                  refine Plan.callF [] 0 rfl rfl rfl (.inl rfl) (by simp) (fun w hm => same_ct (at0 o1) A1 p p _ d1 _ c1 w (Res.own_rd enc2 (hm.res (ownV o1 d1 p) (by simp))) (hp.mem hm) rfl rfl (by omega) (by omega)) ?_   -- tinplate/tinplatelaw03.same
                  rintro v Ln ⟨rfl, rfl⟩
                  rw [decide_eq_true (rfl : p = p)]
                  refine Plan.splitB (fun h89 => ?_) (fun h89 => ?_)
                  · skip
                    refine Plan.pick (v := .bool _) rfl rfl rfl rfl ?_
                    refine Plan.move (v := .bool _) rfl rfl rfl ?_
                    refine Plan.move (v := .slice _ _ _) rfl rfl rfl ?_
                    refine Plan.move (v := .slice _ _ _) rfl rfl rfl ?_
                    refine Plan.callF [] 0 rfl rfl rfl (.inl rfl) (by simp) (fun w hm => same_ct (at0 o2) A2 q q _ d2 _ c2 w (Res.own_rd enc2 (hm.res (ownV o2 d2 q) (by simp))) (hq.mem hm) rfl rfl (by omega) (by omega)) ?_   -- tinplate/tinplatelaw03.same
                    rintro v Ln ⟨rfl, rfl⟩
                    rw [decide_eq_true (rfl : q = q)]
                    refine Plan.splitB (fun h94 => ?_) (fun h94 => ?_)
                    · skip
                      refine Plan.pick (v := .bool _) rfl rfl rfl rfl ?_
                      refine Plan.move (v := .bool _) rfl rfl rfl ?_
                      refine Plan.callF [] 0 rfl rfl rfl (.inl rfl) (by simp) (fun w hm => alive_ct w) ?_   -- tinplate/tinplatelaw03.alive
                      rintro v Ln ⟨rfl, rfl⟩
                      refine Plan.splitB (fun h97 => ?_) (fun h97 => ?_)
                      · skip
                        refine Plan.pick (v := .bool _) rfl rfl rfl rfl ?_
                        refine Plan.assign (v := .bool _) rfl rfl rfl ?_
                        refine Plan.done ?_
                        exact HW.ret ⟨rfl, _, [], .tmp rfl .nil, List.nil_sublist _, rfl, rfl⟩
                      · skip
                        cases h97
                    · skip
                      cases h94
                  · skip
                    cases h89
                · replace h84 := of_decide_eq_false h84
                  exact absurd rfl h84
      · skip
        refine Plan.extract (v := .int _ _) rfl rfl rfl rfl ?_
        refine Plan.assign (v := .bool _) rfl rfl rfl ?_
        refine Plan.assign (v := .int _ _) rfl rfl rfl ?_
        refine Plan.done ?_
        refine HW.seq (HW.region [(0, .st), (1, .st), (2, .ef), (3, .st), (4, .st), (5, .st), (6, .st), (7, .st)] rfl rfl ?_)
        refine Plan.move (v := .slice _ _ _) rfl rfl rfl ?_
        refine Plan.move (v := .slice _ _ _) rfl rfl rfl ?_
        refine Plan.callF [] 0 rfl rfl rfl (.inl rfl) (by simp) (fun w hm => rOverlap_ct A1 A2 p q _ c1 _ c2 w (hp.mem hm) (hq.mem hm) rfl rfl) ?_   -- tinplate/tinplateref03.Overlap
        rintro v Ln ⟨rfl, rfl⟩
        rw [h30]
        refine Plan.move (v := .tuple _) rfl rfl rfl ?_
        refine Plan.extract (v := .bool _) rfl rfl rfl rfl ?_
        refine Plan.extract (v := .int _ _) rfl rfl rfl rfl ?_
        refine Plan.assign (v := .bool _) rfl rfl rfl ?_
        refine Plan.assign (v := .int _ _) rfl rfl rfl ?_
        refine Plan.done ?_
        refine HW.seq ?_
        refine HW.seq (HW.region [(0, .st), (1, .st), (2, .st), (3, .st), (4, .st), (5, .st), (6, .st), (7, .st)] rfl rfl ?_)
        refine Plan.move (v := .bool _) rfl rfl rfl ?_
        refine Plan.move (v := .bool _) rfl rfl rfl ?_
        refine Plan.neB rfl rfl undB rfl rfl ?_
        refine Plan.move (v := .bool _) rfl rfl rfl ?_
        refine Plan.move (v := .int _ _) rfl rfl rfl ?_
        refine Plan.move (v := .int _ _) rfl rfl rfl ?_
        refine Plan.cmp2 rfl rfl rfl rfl rfl (fun h44 => ?_) (fun h44 => ?_)
        · replace h44 := ne_of_t h44
          exact absurd rfl h44
        · replace h44 := eq_of_f h44
          refine Plan.pick (v := .bool _) rfl rfl rfl rfl ?_
          refine Plan.done ?_
          refine HW.cond_false rfl ?_
          refine HW.skip ?_
          refine HW.seq (HW.region [(0, .st), (1, .st), (2, .ef), (3, .st), (4, .st), (5, .st), (6, .al), (7, .ef), (8, .st)] rfl rfl ?_)
          refine Plan.move (v := .slice _ _ _) rfl rfl rfl ?_
          refine Plan.move (v := .slice _ _ _) rfl rfl rfl ?_
          refine Plan.callF [] 0 rfl rfl rfl (.inl rfl) (by simp) (fun w hm => Separate_ct (at0 o1) (at0 o2) p q _ d1 _ d2 w (Res.own_rd enc2 (hm.res (ownV o1 d1 p) (by simp))) (Res.own_rd enc2 (hm.res (ownV o2 d2 q) (by simp))) rfl rfl (by omega) (by omega)) ?_   -- tinplate/convex.Separate
          rintro v Ln ⟨rfl, rfl⟩
          refine Plan.move (v := .tuple _) rfl rfl rfl ?_
          refine Plan.extract (v := .agg _) rfl rfl rfl rfl ?_
          refine Plan.extract (v := .int _ _) rfl rfl rfl rfl ?_
          refine Plan.alloc rfl zerV fun b11 => ?_
          refine Plan.storeA 0 rfl rfl hDn sizV rfl rfl rfl rfl rfl rfl ?_
          refine Plan.assign (v := .int _ _) rfl rfl rfl ?_
          refine Plan.done ?_
          refine HW.seq (HW.region [(0, .st), (1, .st), (2, .ef), (3, .st), (4, .st), (5, .st), (6, .al), (7, .ef), (8, .st)] rfl rfl ?_)
          refine Plan.move (v := .slice _ _ _) rfl rfl rfl ?_
          refine Plan.move (v := .slice _ _ _) rfl rfl rfl ?_
          refine Plan.callF [] 0 rfl rfl rfl (.inl rfl) (by simp) (fun w hm => rSeparate_ct A1 A2 p q _ c1 _ c2 w (hp.mem hm) (hq.mem hm) rfl rfl) ?_   -- tinplate/tinplateref03.Separate
          rintro v Ln ⟨rfl, rfl⟩
          refine Plan.move (v := .tuple _) rfl rfl rfl ?_
          refine Plan.extract (v := .agg _) rfl rfl rfl rfl ?_
          refine Plan.extract (v := .int _ _) rfl rfl rfl rfl ?_
          refine Plan.alloc rfl zerV fun b12 => ?_
          refine Plan.storeA 0 rfl rfl hDn sizV rfl rfl rfl rfl rfl rfl ?_
          refine Plan.assign (v := .int _ _) rfl rfl rfl ?_
          refine Plan.done ?_
          refine HW.seq ?_
          refine HW.seq (HW.region [(0, .st), (1, .st), (2, .st), (3, .st), (4, .st), (5, .st), (6, .st), (7, .st)] rfl rfl ?_)
          refine Plan.loadAll 1 rfl rfl aggV sizV rfl rfl rfl ?_
          refine Plan.loadAll 0 rfl rfl aggV sizV rfl rfl rfl ?_
          refine Plan.neV (SeparateF p q).1 (SeparateF p q).1 rfl rfl rfl rfl rfl (fun h60 => ?_) (fun h60 => ?_)
          · skip
            exact absurd rfl h60
          · skip
            refine Plan.move (v := .bool _) rfl rfl rfl ?_
            refine Plan.move (v := .int _ _) rfl rfl rfl ?_
            refine Plan.move (v := .int _ _) rfl rfl rfl ?_
            refine Plan.cmp2 rfl rfl rfl rfl rfl (fun h64 => ?_) (fun h64 => ?_)
            · replace h64 := ne_of_t h64
              exact absurd rfl h64
            · replace h64 := eq_of_f h64
              refine Plan.pick (v := .bool _) rfl rfl rfl rfl ?_
              refine Plan.done ?_
              refine HW.cond_false rfl ?_
              refine HW.skip ?_
              refine HW.seq (HW.region [(0, .st), (1, .st), (2, .ef), (3, .st), (4, .st), (5, .st), (6, .st), (7, .st)] rfl rfl ?_)
              refine Plan.move (v := .slice _ _ _) rfl rfl rfl ?_
              refine Plan.move (v := .slice _ _ _) rfl rfl rfl ?_
              refine Plan.callF [] 0 rfl rfl rfl (.inl rfl) (by simp) (fun w hm => Inside_ct (at0 o1) (at0 o2) p q _ d1 _ d2 w (Res.own_rd enc2 (hm.res (ownV o1 d1 p) (by simp))) (Res.own_rd enc2 (hm.res (ownV o2 d2 q) (by simp))) rfl rfl (by omega) (by omega)) ?_   -- tinplate/convex.Inside
              rintro v Ln ⟨rfl, rfl⟩
              refine Plan.move (v := .tuple _) rfl rfl rfl ?_
              refine Plan.extract (v := .bool _) rfl rfl rfl rfl ?_
              refine Plan.splitB (fun h70 => ?_) (fun h70 => ?_)
              · skip
                refine Plan.extract (v := .int _ _) rfl rfl rfl rfl ?_
                refine Plan.assign (v := .bool _) rfl rfl rfl ?_
                refine Plan.assign (v := .int _ _) rfl rfl rfl ?_
                refine Plan.done ?_
                refine HW.seq (HW.region [(0, .st), (1, .st), (2, .ef), (3, .st), (4, .st), (5, .st), (6, .st), (7, .st)] rfl rfl ?_)
                refine Plan.move (v := .slice _ _ _) rfl rfl rfl ?_
                refine Plan.move (v := .slice _ _ _) rfl rfl rfl ?_
                refine Plan.callF [] 0 rfl rfl rfl (.inl rfl) (by simp) (fun w hm => rInside_ct A1 A2 p q _ c1 _ c2 w (hp.mem hm) (hq.mem hm) rfl rfl) ?_   -- tinplate/tinplateref03.Inside
                rintro v Ln ⟨rfl, rfl⟩
                rw [h70]
                refine Plan.move (v := .tuple _) rfl rfl rfl ?_
                refine Plan.extract (v := .bool _) rfl rfl rfl rfl ?_
                refine Plan.extract (v := .int _ _) rfl rfl rfl rfl ?_
                refine Plan.assign (v := .bool _) rfl rfl rfl ?_
                refine Plan.assign (v := .int _ _) rfl rfl rfl ?_
                refine Plan.done ?_
                refine HW.seq (HW.region [(0, .st), (1, .st), (2, .st), (3, .st), (4, .st), (5, .st), (6, .st), (7, .st), (8, .st), (9, .st), (10, .st), (11, .ef), (12, .st), (13, .st), (14, .st), (15, .st), (16, .ef), (17, .st), (18, .st), (19, .ef), (20, .st), (21, .st)] rfl rfl ?_)
                refine Plan.move (v := .bool _) rfl rfl rfl ?_
                refine Plan.move (v := .bool _) rfl rfl rfl ?_
                refine Plan.eqB rfl rfl undB rfl rfl ?_
                refine Plan.move (v := .bool _) rfl rfl rfl ?_
                refine Plan.move (v := .int _ _) rfl rfl rfl ?_
                refine Plan.move (v := .int _ _) rfl rfl rfl ?_
                refine Plan.cmp2 rfl rfl rfl rfl rfl (fun h84 => ?_) (fun h84 => ?_)
                · replace h84 := of_decide_eq_true h84
                  refine Plan.pick (v := .bool _) rfl rfl rfl rfl ?_
                  refine Plan.move (v := .bool _) rfl rfl rfl ?_
                  refine Plan.move (v := .slice _ _ _) rfl rfl rfl ?_
                  refine Plan.move (v := .slice _ _ _) rfl rfl rfl ?_
                  refine Plan.callF [] 0 rfl rfl rfl (.inl rfl) (by simp) (fun w hm => same_ct (at0 o1) A1 p p _ d1 _ c1 w (Res.own_rd enc2 (hm.res (ownV o1 d1 p) (by simp))) (hp.mem hm) rfl rfl (by omega) (by omega)) ?_   -- tinplate/tinplatelaw03.same
                  rintro v Ln ⟨rfl, rfl⟩
                  rw [decide_eq_true (rfl : p = p)]
                  refine Plan.splitB (fun h89 => ?_) (fun h89 => ?_)
                  · skip
                    refine Plan.pick (v := .bool _) rfl rfl rfl rfl ?_
                    refine Plan.move (v := .bool _) rfl rfl rfl ?_
                    refine Plan.move (v := .slice _ _ _) rfl rfl rfl ?_
                    refine Plan.move (v := .slice _ _ _) rfl rfl rfl ?_
                    refine Plan.callF [] 0 rfl rfl rfl (.inl rfl) (by simp) (fun w hm => same_ct (at0 o2) A2 q q _ d2 _ c2 w (Res.own_rd enc2 (hm.res (ownV o2 d2 q) (by simp))) (hq.mem hm) rfl rfl (by omega) (by omega)) ?_   -- tinplate/tinplatelaw03.same
                    rintro v Ln ⟨rfl, rfl⟩
                    rw [decide_eq_true (rfl : q = q)]
                    refine Plan.splitB (fun h94 => ?_) (fun h94 => ?_)
                    · skip
                      refine Plan.pick (v := .bool _) rfl rfl rfl rfl ?_
                      refine Plan.move (v := .bool _) rfl rfl rfl ?_
                      refine Plan.callF [] 0 rfl rfl rfl (.inl rfl) (by simp) (fun w hm => alive_ct w) ?_   -- tinplate/tinplatelaw03.alive
                      rintro v Ln ⟨rfl, rfl⟩
                      refine Plan.splitB (fun h97 => ?_) (fun h97 => ?_)
                      · skip
                        refine Plan.pick (v := .bool _) rfl rfl rfl rfl ?_
                        refine Plan.assign (v := .bool _) rfl rfl rfl ?_
                        refine Plan.done ?_
                        exact HW.ret ⟨rfl, _, [], .tmp rfl .nil, List.nil_sublist _, rfl, rfl⟩
                      · skip
                        cases h97
                    · skip
                      cases h94
                  · skip
                    cases h89
                · replace h84 := of_decide_eq_false h84
                  exact absurd rfl h84
              · skip
                refine Plan.extract (v := .int _ _) rfl rfl rfl rfl ?_
                refine Plan.assign (v := .bool _) rfl rfl rfl ?_
                refine Plan.assign (v := .int _ _) rfl rfl rfl ?_
                refine Plan.done ?_
                refine HW.seq (HW.region [(0, .st), (1, .st), (2, .ef), (3, .st), (4, .st), (5, .st), (6, .st), (7, .st)] rfl rfl ?_)
                refine Plan.move (v := .slice _ _ _) rfl rfl rfl ?_
                refine Plan.move (v := .slice _ _ _) rfl rfl rfl ?_
                refine Plan.callF [] 0 rfl rfl rfl (.inl rfl) (by simp) (fun w hm => rInside_ct A1 A2 p q _ c1 _ c2 w (hp.mem hm) (hq.mem hm) rfl rfl) ?_   -- tinplate/tinplateref03.Inside
                rintro v Ln ⟨rfl, rfl⟩
                rw [h70]
                refine Plan.move (v := .tuple _) rfl rfl rfl ?_
                refine Plan.extract (v := .bool _) rfl rfl rfl rfl ?_
                refine Plan.extract (v := .int _ _) rfl rfl rfl rfl ?_
                refine Plan.assign (v := .bool _) rfl rfl rfl ?_
                refine Plan.assign (v := .int _ _) rfl rfl rfl ?_
                refine Plan.done ?_
                refine HW.seq (HW.region [(0, .st), (1, .st), (2, .st), (3, .st), (4, .st), (5, .st), (6, .st), (7, .st), (8, .st), (9, .st), (10, .st), (11, .ef), (12, .st), (13, .st), (14, .st), (15, .st), (16, .ef), (17, .st), (18, .st), (19, .ef), (20, .st), (21, .st)] rfl rfl ?_)
                refine Plan.move (v := .bool _) rfl rfl rfl ?_
                refine Plan.move (v := .bool _) rfl rfl rfl ?_
                refine Plan.eqB rfl rfl undB rfl rfl ?_
                refine Plan.move (v := .bool _) rfl rfl rfl ?_
                refine Plan.move (v := .int _ _) rfl rfl rfl ?_
                refine Plan.move (v := .int _ _) rfl rfl rfl ?_
                refine Plan.cmp2 rfl rfl rfl rfl rfl (fun h84 => ?_) (fun h84 => ?_)
                · replace h84 := of_decide_eq_true h84
                  refine Plan.pick (v := .bool _) rfl rfl rfl rfl ?_
                  refine Plan.move (v := .bool _) rfl rfl rfl ?_
                  refine Plan.move (v := .slice _ _ _) rfl rfl rfl ?_
                  refine Plan.move (v := .slice _ _ _) rfl rfl rfl ?_
                  refine Plan.callF [] 0 rfl rfl rfl (.inl rfl) (by simp) (fun w hm => same_ct (at0 o1) A1 p p _ d1 _ c1 w (Res.own_rd enc2 (hm.res (ownV o1 d1 p) (by simp))) (hp.mem hm) rfl rfl (by omega) (by omega)) ?_   -- tinplate/tinplatelaw03.same
                  rintro v Ln ⟨rfl, rfl⟩
                  rw [decide_eq_true (rfl : p = p)]
                  refine Plan.splitB (fun h89 => ?_) (fun h89 => ?_)
                  · skip
                    refine Plan.pick (v := .bool _) rfl rfl rfl rfl ?_
                    refine Plan.move (v := .bool _) rfl rfl rfl ?_
                    refine Plan.move (v := .slice _ _ _) rfl rfl rfl ?_
                    refine Plan.move (v := .slice _ _ _) rfl rfl rfl ?_
                    refine Plan.callF [] 0 rfl rfl rfl (.inl rfl) (by simp) (fun w hm => same_ct (at0 o2) A2 q q _ d2 _ c2 w (Res.own_rd enc2 (hm.res (ownV o2 d2 q) (by simp))) (hq.mem hm) rfl rfl (by omega) (by omega)) ?_   -- tinplate/tinplatelaw03.same
                    rintro v Ln ⟨rfl, rfl⟩
                    rw [decide_eq_true (rfl : q = q)]
                    refine Plan.splitB (fun h94 => ?_) (fun h94 => ?_)
                    · skip
                      refine Plan.pick (v := .bool _) rfl rfl rfl rfl ?_
                      refine Plan.move (v := .bool _) rfl rfl rfl ?_
                      refine Plan.callF [] 0 rfl rfl rfl (.inl rfl) (by simp) (fun w hm => alive_ct w) ?_   -- tinplate/tinplatelaw03.alive
                      rintro v Ln ⟨rfl, rfl⟩
                      refine Plan.splitB (fun h97 => ?_) (fun h97 => ?_)
                      · skip
                        refine Plan.pick (v := .bool _) rfl rfl rfl rfl ?_
                        refine Plan.assign (v := .bool _) rfl rfl rfl ?_
                        refine Plan.done ?_
                        exact HW.ret ⟨rfl, _, [], .tmp rfl .nil, List.nil_sublist _, rfl, rfl⟩
                      · skip
                        cases h97
                    · skip
                      cases h94
                  · skip
                    cases h89
                · replace h84 := of_decide_eq_false h84
                  exact absurd rfl h84
    · skip
      refine Plan.not rfl rfl rfl ?_
      refine Plan.pick (v := .bool _) rfl rfl rfl rfl ?_
      refine Plan.done ?_
      refine HW.cond_true rfl ?_
      refine HW.seq (HW.region [(0, .ef), (1, .st)] rfl rfl ?_)
      refine Plan.callF [] 0 rfl rfl rfl (.inl rfl) (by simp) (fun w hm => alive_ct w) ?_   -- tinplate/tinplatelaw03.alive
      rintro v Ln ⟨rfl, rfl⟩
      refine Plan.splitB (fun h21 => ?_) (fun h21 => ?_)
      · skip
        refine Plan.assign (v := .bool _) rfl rfl rfl ?_
        refine Plan.done ?_
        exact HW.ret ⟨rfl, _, [], .tmp rfl .nil, List.nil_sublist _, rfl, rfl⟩
      · skip
        cases h21
  · skip
    refine Plan.not rfl rfl rfl ?_
    refine Plan.move (v := .bool _) rfl rfl rfl ?_
    refine Plan.no rfl rfl ?_
    refine Plan.noE rfl rfl ?_
    refine Plan.no rfl rfl ?_
    refine Plan.pick (v := .bool _) rfl rfl rfl rfl ?_
    refine Plan.done ?_
    refine HW.cond_true rfl ?_
    refine HW.seq (HW.region [(0, .ef), (1, .st)] rfl rfl ?_)
    refine Plan.callF [] 0 rfl rfl rfl (.inl rfl) (by simp) (fun w hm => alive_ct w) ?_   -- tinplate/tinplatelaw03.alive
    rintro v Ln ⟨rfl, rfl⟩
    refine Plan.splitB (fun h21 => ?_) (fun h21 => ?_)
    · skip
      refine Plan.assign (v := .bool _) rfl rfl rfl ?_
      refine Plan.done ?_
      exact HW.ret ⟨rfl, _, [], .tmp rfl .nil, List.nil_sublist _, rfl, rfl⟩
    · skip
      cases h21

end Go.Proofs.Ytoghphikfkdkmaa.V
