/-
  The law ConvexNested, by what is true of polygons (NestedM).
-/
import Derived.Test.YtoghphikfkdkmaaV17
namespace Go.Proofs.Ytoghphikfkdkmaa.V
open Go Go.RowKit Go.Proofs.Ytoghphikfkdkmaa.H
set_option linter.unusedVariables false
set_option linter.unusedSimpArgs false

theorem inside_ok {p q : List Pt} (h : (InsideF p q).1 = true) : (InsideF p q).2 = 0 := by
  unfold InsideF at *
  split
  · rfl
  · next hn => rw [if_neg hn] at h; cases h

theorem points_bd (ps : List Pt) : -1000000000000 ≤ (PointsF ps).1 ∧ (PointsF ps).1 ≤ 1000000000000 ∧ -1000000000000 ≤ (PointsF ps).2.1 ∧ (PointsF ps).2.1 ≤ 1000000000000 := by
  unfold PointsF
  split
  · next h =>
    obtain ⟨v1, v2, v3, v4⟩ := validF_spec h
    have hab := sumN_bd (f := fun k => crossP (nth ps k) (nx ps k)) (M := 20000000000) ps.length (fun j hj => cross_bd ((v3 _ (nth_mem hj)).mono (by omega)) ((v3 _ (nx_mem hj)).mono (by omega)))
    have hob := sumN_bd (f := fun k => (gcdE (nth ps k) (nx ps k) : Int)) (M := 4000) ps.length (fun j hj => by have := gcdE_bd (v3 _ (nth_mem hj)) (v3 _ (nx_mem hj)); omega)
    have hab' : -(20000000000 * (ps.length : Int)) ≤ areaC ps ∧ areaC ps ≤ 20000000000 * ps.length := hab
    have hob' : -(4000 * (ps.length : Int)) ≤ onC ps ∧ onC ps ≤ 4000 * ps.length := hob
    have h1 : ((areaC ps + 2 - onC ps).tdiv 2).natAbs ≤ (areaC ps + 2 - onC ps).natAbs := by rw [Int.natAbs_tdiv]; exact Nat.div_le_self _ _
    simp only
    omega
  · simp

/-- what is claimed of nested polygons -/
structure NestedM (p q r : List Pt) : Prop where
  a1 : (AreaF p).2 = 0
  a2 : (AreaF q).2 = 0
  b1 : (PointsF p).2.2 = 0
  b2 : (PointsF q).2.2 = 0
  area : (AreaF p).1 ≤ (AreaF q).1
  inn : (PointsF p).1 ≤ (PointsF q).1
  all : (PointsF p).1 + (PointsF p).2.1 ≤ (PointsF q).1 + (PointsF q).2.1
  sum : (SumF p r).2 = 0 → (SumF q r).2 = 0 → InsideF (SumF p r).1 (SumF q r).1 = (true, 0)

theorem SumF_len (p q : List Pt) : (SumF p q).1.length ≤ p.length + q.length := by
  unfold SumF
  split
  · unfold madeL; split
    · exact sumF_len p q
    · simp
  · simp

set_option maxRecDepth 10000 in
set_option maxHeartbeats 1000000 in
theorem nested_ct (hM : ∀ p q r : List Pt, InsideF p q = (true, 0) → NestedM p q r) (A1 A2 A3 : Option Addr) (p q r : List Pt) (n1 c1 n2 c2 n3 c3 : Nat) (w : World) (hp : Rd enc 2 w A1 p) (hq : Rd enc 2 w A2 q) (hr : Rd enc 2 w A3 r) (hn1 : n1 = p.length) (hn2 : n2 = q.length) (hn3 : n3 = r.length) :
    Ct P 3 #[.slice A1 n1 c1, .slice A2 n2 c2, .slice A3 n3 c3] w [] (fun v L => v = .bool true ∧ L = []) := by
  subst hn1 hn2 hn3
  have hpb := points_bd p
  have hqb := points_bd q
  refine Ct.of_body (rs := [.tmp 6]) (N := 140) (L := []) Try.func3 rfl rfl rfl (by kernel_rfl) rfl (Mem.refl w) ?_
  refine HW.seq (HW.region [(0, .st)] rfl rfl ?_)
  refine Plan.assign (v := .bool _) rfl rfl rfl ?_
  refine Plan.done ?_
  refine HW.seq ?_
  refine HW.seq (HW.region [(0, .st), (1, .ef), (2, .st), (3, .st), (4, .st), (5, .ef), (6, .st), (7, .st), (8, .st), (9, .st), (10, .ef), (11, .st), (12, .st)] rfl rfl ?_)
  refine Plan.move (v := .slice _ _ _) rfl rfl rfl ?_
  refine Plan.callF [] 0 rfl rfl rfl (.inl rfl) (by simp) (fun w hm => few_ct A1 p _ c1 w rfl) ?_   -- tinplate/tinplatelaw03.few
  rintro v Ln ⟨rfl, rfl⟩
  refine Plan.splitB (fun h22 => ?_) (fun h22 => ?_)
  · skip
    refine Plan.not rfl rfl rfl ?_
    refine Plan.move (v := .bool _) rfl rfl rfl ?_
    refine Plan.move (v := .slice _ _ _) rfl rfl rfl ?_
    refine Plan.callF [] 0 rfl rfl rfl (.inl rfl) (by simp) (fun w hm => few_ct A2 q _ c2 w rfl) ?_   -- tinplate/tinplatelaw03.few
    rintro v Ln ⟨rfl, rfl⟩
    refine Plan.splitB (fun h26 => ?_) (fun h26 => ?_)
    · skip
      refine Plan.not rfl rfl rfl ?_
      refine Plan.pick (v := .bool _) rfl rfl rfl rfl ?_
      refine Plan.move (v := .bool _) rfl rfl rfl ?_
      refine Plan.move (v := .slice _ _ _) rfl rfl rfl ?_
      refine Plan.callF [] 0 rfl rfl rfl (.inl rfl) (by simp) (fun w hm => few_ct A3 r _ c3 w rfl) ?_   -- tinplate/tinplatelaw03.few
      rintro v Ln ⟨rfl, rfl⟩
      refine Plan.splitB (fun h31 => ?_) (fun h31 => ?_)
      · skip
        have l1 := of_decide_eq_true h22
        have l2 := of_decide_eq_true h26
        have l3 := of_decide_eq_true h31
        refine Plan.not rfl rfl rfl ?_
        refine Plan.pick (v := .bool _) rfl rfl rfl rfl ?_
        refine Plan.done ?_
        refine HW.cond_false rfl ?_
        refine HW.skip ?_
        refine HW.seq (HW.region [(0, .st), (1, .st), (2, .ef), (3, .st), (4, .st), (5, .st), (6, .st), (7, .st)] rfl rfl ?_)
        refine Plan.move (v := .slice _ _ _) rfl rfl rfl ?_
        refine Plan.move (v := .slice _ _ _) rfl rfl rfl ?_
        refine Plan.callF [] 0 rfl rfl rfl (.inl rfl) (by simp) (fun w hm => Inside_ct A1 A2 p q _ c1 _ c2 w (hp.mem hm) (hq.mem hm) rfl rfl (by omega) (by omega)) ?_   -- tinplate/convex.Inside
        rintro v Ln ⟨rfl, rfl⟩
        refine Plan.move (v := .tuple _) rfl rfl rfl ?_
        refine Plan.extract (v := .bool _) rfl rfl rfl rfl ?_
        refine Plan.splitB (fun h39 => ?_) (fun h39 => ?_)
        · skip
          refine Plan.extract (v := .int _ _) rfl rfl rfl rfl ?_
          refine Plan.assign (v := .bool _) rfl rfl rfl ?_
          refine Plan.assign (v := .int _ _) rfl rfl rfl ?_
          refine Plan.done ?_
          refine HW.seq ?_
          refine HW.seq (HW.region [(0, .st), (1, .st), (2, .st), (3, .st), (4, .st), (5, .st)] rfl rfl ?_)
          refine Plan.move (v := .int _ _) rfl rfl rfl ?_
          refine Plan.cmp2 rfl rfl rfl rfl rfl (fun h42 => ?_) (fun h42 => ?_)
          · replace h42 := ne_of_t h42
            refine Plan.move (v := .bool _) rfl rfl rfl ?_
            refine Plan.no rfl rfl ?_
            refine Plan.no rfl rfl ?_
            refine Plan.pick (v := .bool _) rfl rfl rfl rfl ?_
            refine Plan.done ?_
            refine HW.cond_true rfl ?_
            refine HW.seq (HW.region [(0, .st), (1, .st), (2, .st), (3, .ef), (4, .st), (5, .st)] rfl rfl ?_)
            refine Plan.move (v := .bool _) rfl rfl rfl ?_
            refine Plan.not rfl rfl rfl ?_
            refine Plan.move (v := .bool _) rfl rfl rfl ?_
            refine Plan.noE rfl rfl ?_
            refine Plan.pick (v := .bool _) rfl rfl rfl rfl ?_
            refine Plan.assign (v := .bool _) rfl rfl rfl ?_
            refine Plan.done ?_
            exact HW.ret ⟨rfl, _, [], .tmp rfl .nil, List.nil_sublist _, (by first | rfl | exact absurd (inside_ok h39) h42), rfl⟩
          · replace h42 := eq_of_f h42
            refine Plan.move (v := .bool _) rfl rfl rfl ?_
            refine Plan.move (v := .bool _) rfl rfl rfl ?_
            refine Plan.not rfl rfl rfl ?_
            refine Plan.pick (v := .bool _) rfl rfl rfl rfl ?_
            refine Plan.done ?_
            refine HW.cond_false rfl ?_
            refine HW.skip ?_
            have hI : InsideF p q = (true, 0) := by first | exact Prod.ext h39 h42 | (rw [h39] at hc; cases hc)
            obtain ⟨ma1, ma2, mb1, mb2, marea, minn, mall, msum⟩ := hM p q r hI
            refine HW.seq (HW.region [(0, .st), (1, .ef), (2, .st), (3, .st), (4, .st), (5, .st), (6, .st)] rfl rfl ?_)
            refine Plan.move (v := .slice _ _ _) rfl rfl rfl ?_
            refine Plan.callF [] 0 rfl rfl rfl (.inl rfl) (by simp) (fun w hm => Area_ct A1 p _ c1 w (hp.mem hm) rfl (by omega)) ?_   -- tinplate/convex.Area
            rintro v Ln ⟨rfl, rfl⟩
            refine Plan.move (v := .tuple _) rfl rfl rfl ?_
            refine Plan.extract (v := .int _ _) rfl rfl rfl rfl ?_
            refine Plan.extract (v := .int _ _) rfl rfl rfl rfl ?_
            refine Plan.assign (v := .int _ _) rfl rfl rfl ?_
            refine Plan.assign (v := .int _ _) rfl rfl rfl ?_
            refine Plan.done ?_
            refine HW.seq (HW.region [(0, .st), (1, .ef), (2, .st), (3, .st), (4, .st), (5, .st), (6, .st)] rfl rfl ?_)
            refine Plan.move (v := .slice _ _ _) rfl rfl rfl ?_
            refine Plan.callF [] 0 rfl rfl rfl (.inl rfl) (by simp) (fun w hm => Area_ct A2 q _ c2 w (hq.mem hm) rfl (by omega)) ?_   -- tinplate/convex.Area
            rintro v Ln ⟨rfl, rfl⟩
            refine Plan.move (v := .tuple _) rfl rfl rfl ?_
            refine Plan.extract (v := .int _ _) rfl rfl rfl rfl ?_
            refine Plan.extract (v := .int _ _) rfl rfl rfl rfl ?_
            refine Plan.assign (v := .int _ _) rfl rfl rfl ?_
            refine Plan.assign (v := .int _ _) rfl rfl rfl ?_
            refine Plan.done ?_
            refine HW.seq (HW.region [(0, .st), (1, .ef), (2, .st), (3, .st), (4, .st), (5, .st), (6, .st), (7, .st), (8, .st)] rfl rfl ?_)
            refine Plan.move (v := .slice _ _ _) rfl rfl rfl ?_
            refine Plan.callF [] 0 rfl rfl rfl (.inl rfl) (by simp) (fun w hm => Points_ct A1 p _ c1 w (hp.mem hm) rfl (by omega)) ?_   -- tinplate/convex.Points
            rintro v Ln ⟨rfl, rfl⟩
            refine Plan.move (v := .tuple _) rfl rfl rfl ?_
            refine Plan.extract (v := .int _ _) rfl rfl rfl rfl ?_
            refine Plan.extract (v := .int _ _) rfl rfl rfl rfl ?_
            refine Plan.extract (v := .int _ _) rfl rfl rfl rfl ?_
            refine Plan.assign (v := .int _ _) rfl rfl rfl ?_
            refine Plan.assign (v := .int _ _) rfl rfl rfl ?_
            refine Plan.assign (v := .int _ _) rfl rfl rfl ?_
            refine Plan.done ?_
            refine HW.seq (HW.region [(0, .st), (1, .ef), (2, .st), (3, .st), (4, .st), (5, .st), (6, .st), (7, .st), (8, .st)] rfl rfl ?_)
            refine Plan.move (v := .slice _ _ _) rfl rfl rfl ?_
            refine Plan.callF [] 0 rfl rfl rfl (.inl rfl) (by simp) (fun w hm => Points_ct A2 q _ c2 w (hq.mem hm) rfl (by omega)) ?_   -- tinplate/convex.Points
            rintro v Ln ⟨rfl, rfl⟩
            refine Plan.move (v := .tuple _) rfl rfl rfl ?_
            refine Plan.extract (v := .int _ _) rfl rfl rfl rfl ?_
            refine Plan.extract (v := .int _ _) rfl rfl rfl rfl ?_
            refine Plan.extract (v := .int _ _) rfl rfl rfl rfl ?_
            refine Plan.assign (v := .int _ _) rfl rfl rfl ?_
            refine Plan.assign (v := .int _ _) rfl rfl rfl ?_
            refine Plan.assign (v := .int _ _) rfl rfl rfl ?_
            refine Plan.done ?_
            refine HW.seq ?_
            refine HW.seq (HW.region [(0, .st), (1, .st), (2, .st), (3, .st), (4, .st), (5, .st), (6, .st), (7, .st), (8, .st), (9, .st), (10, .st), (11, .st), (12, .st), (13, .st), (14, .st), (15, .st), (16, .st), (17, .st), (18, .st), (19, .st), (20, .st), (21, .st), (22, .st), (23, .st), (24, .st), (25, .st), (26, .st), (27, .st), (28, .st), (29, .st), (30, .st), (31, .st), (32, .st)] rfl rfl ?_)
            refine Plan.move (v := .int _ _) rfl rfl rfl ?_
            refine Plan.cmp2 rfl rfl rfl rfl rfl (fun h75 => ?_) (fun h75 => ?_)
            · replace h75 := ne_of_t h75
              omega
            · replace h75 := eq_of_f h75
              refine Plan.move (v := .bool _) rfl rfl rfl ?_
              refine Plan.move (v := .int _ _) rfl rfl rfl ?_
              refine Plan.cmp2 rfl rfl rfl rfl rfl (fun h78 => ?_) (fun h78 => ?_)
              · replace h78 := ne_of_t h78
                omega
              · replace h78 := eq_of_f h78
                refine Plan.pick (v := .bool _) rfl rfl rfl rfl ?_
                refine Plan.move (v := .bool _) rfl rfl rfl ?_
                refine Plan.move (v := .int _ _) rfl rfl rfl ?_
                refine Plan.cmp2 rfl rfl rfl rfl rfl (fun h82 => ?_) (fun h82 => ?_)
                · replace h82 := ne_of_t h82
                  omega
                · replace h82 := eq_of_f h82
                  refine Plan.pick (v := .bool _) rfl rfl rfl rfl ?_
                  refine Plan.move (v := .bool _) rfl rfl rfl ?_
                  refine Plan.move (v := .int _ _) rfl rfl rfl ?_
                  refine Plan.cmp2 rfl rfl rfl rfl rfl (fun h86 => ?_) (fun h86 => ?_)
                  · replace h86 := ne_of_t h86
                    omega
                  · replace h86 := eq_of_f h86
                    refine Plan.pick (v := .bool _) rfl rfl rfl rfl ?_
                    refine Plan.move (v := .bool _) rfl rfl rfl ?_
                    refine Plan.move (v := .int _ _) rfl rfl rfl ?_
                    refine Plan.move (v := .int _ _) rfl rfl rfl ?_
                    refine Plan.cmp2 rfl rfl rfl rfl rfl (fun h91 => ?_) (fun h91 => ?_)
                    · replace h91 := of_decide_eq_true h91
                      omega
                    · replace h91 := of_decide_eq_false h91
                      refine Plan.pick (v := .bool _) rfl rfl rfl rfl ?_
                      refine Plan.move (v := .bool _) rfl rfl rfl ?_
                      refine Plan.move (v := .int _ _) rfl rfl rfl ?_
                      refine Plan.move (v := .int _ _) rfl rfl rfl ?_
                      refine Plan.cmp2 rfl rfl rfl rfl rfl (fun h96 => ?_) (fun h96 => ?_)
                      · replace h96 := of_decide_eq_true h96
                        omega
                      · replace h96 := of_decide_eq_false h96
                        refine Plan.pick (v := .bool _) rfl rfl rfl rfl ?_
                        refine Plan.move (v := .bool _) rfl rfl rfl ?_
                        refine Plan.move (v := .int _ _) rfl rfl rfl ?_
                        refine Plan.move (v := .int _ _) rfl rfl rfl ?_
                        refine Plan.arithI rfl rfl rfl rfl rfl (by omega) ?_
                        refine Plan.move (v := .int _ _) rfl rfl rfl ?_
                        refine Plan.move (v := .int _ _) rfl rfl rfl ?_
                        refine Plan.arithI rfl rfl rfl rfl rfl (by omega) ?_
                        refine Plan.cmp2 rfl rfl rfl rfl rfl (fun h105 => ?_) (fun h105 => ?_)
                        · replace h105 := of_decide_eq_true h105
                          omega
                        · replace h105 := of_decide_eq_false h105
                          refine Plan.pick (v := .bool _) rfl rfl rfl rfl ?_
                          refine Plan.done ?_
                          refine HW.cond_false rfl ?_
                          refine HW.skip ?_
                          refine HW.seq (HW.region [(0, .st), (1, .st), (2, .ef), (3, .st), (4, .st), (5, .st), (6, .st), (7, .st)] rfl rfl ?_)
                          refine Plan.move (v := .slice _ _ _) rfl rfl rfl ?_
                          refine Plan.move (v := .slice _ _ _) rfl rfl rfl ?_
                          refine Plan.callF [] 0 rfl rfl rfl (.inl rfl) (by simp) (fun w hm => Sum_ct A1 A3 p r _ c1 _ c3 w (hp.mem hm) (hr.mem hm) rfl rfl (by omega) (by omega)) ?_   -- tinplate/convex.Sum
                          rintro v Ln ⟨o1, d1, rfl, rfl⟩
                          refine Plan.move (v := .tuple _) rfl rfl rfl ?_
                          refine Plan.extract (v := .slice _ _ _) rfl rfl rfl rfl ?_
                          refine Plan.extract (v := .int _ _) rfl rfl rfl rfl ?_
                          refine Plan.assign (v := .slice _ _ _) rfl rfl rfl ?_
                          refine Plan.assign (v := .int _ _) rfl rfl rfl ?_
                          refine Plan.done ?_
                          refine HW.seq (HW.region [(0, .st), (1, .st), (2, .ef), (3, .st), (4, .st), (5, .st), (6, .st), (7, .st)] rfl rfl ?_)
                          refine Plan.move (v := .slice _ _ _) rfl rfl rfl ?_
                          refine Plan.move (v := .slice _ _ _) rfl rfl rfl ?_
                          refine Plan.callF [] 0 rfl rfl rfl (.inl rfl) (by simp) (fun w hm => Sum_ct A2 A3 q r _ c2 _ c3 w (hq.mem hm) (hr.mem hm) rfl rfl (by omega) (by omega)) ?_   -- tinplate/convex.Sum
                          rintro v Ln ⟨o2, d2, rfl, rfl⟩
                          refine Plan.move (v := .tuple _) rfl rfl rfl ?_
                          refine Plan.extract (v := .slice _ _ _) rfl rfl rfl rfl ?_
                          refine Plan.extract (v := .int _ _) rfl rfl rfl rfl ?_
                          refine Plan.assign (v := .slice _ _ _) rfl rfl rfl ?_
                          refine Plan.assign (v := .int _ _) rfl rfl rfl ?_
                          refine Plan.done ?_
                          refine HW.seq ?_
                          refine HW.seq (HW.region [(0, .st), (1, .st), (2, .st), (3, .st), (4, .st), (5, .st)] rfl rfl ?_)
                          refine Plan.move (v := .int _ _) rfl rfl rfl ?_
                          refine Plan.cmp2 rfl rfl rfl rfl rfl (fun h120 => ?_) (fun h120 => ?_)
                          · replace h120 := ne_of_t h120
                            refine Plan.move (v := .bool _) rfl rfl rfl ?_
                            refine Plan.no rfl rfl ?_
                            refine Plan.no rfl rfl ?_
                            refine Plan.pick (v := .bool _) rfl rfl rfl rfl ?_
                            refine Plan.done ?_
                            refine HW.cond_true rfl ?_
                            refine HW.seq (HW.region [(0, .ef), (1, .st)] rfl rfl ?_)
                            refine Plan.callF [] 0 rfl rfl rfl (.inl rfl) (by simp) (fun w hm => alive_ct w) ?_   -- tinplate/tinplatelaw03.alive
                            rintro v Ln ⟨rfl, rfl⟩
                            refine Plan.splitB (fun h125 => ?_) (fun h125 => ?_)
                            · skip
                              refine Plan.assign (v := .bool _) rfl rfl rfl ?_
                              refine Plan.done ?_
                              exact HW.ret ⟨rfl, _, [], .tmp rfl .nil, List.nil_sublist _, (by first | rfl | exact absurd (inside_ok h39) h42), rfl⟩
                            · skip
                              cases h125
                          · replace h120 := eq_of_f h120
                            refine Plan.move (v := .bool _) rfl rfl rfl ?_
                            refine Plan.move (v := .int _ _) rfl rfl rfl ?_
                            refine Plan.cmp2 rfl rfl rfl rfl rfl (fun h123 => ?_) (fun h123 => ?_)
                            · replace h123 := ne_of_t h123
                              refine Plan.pick (v := .bool _) rfl rfl rfl rfl ?_
                              refine Plan.done ?_
                              refine HW.cond_true rfl ?_
                              refine HW.seq (HW.region [(0, .ef), (1, .st)] rfl rfl ?_)
                              refine Plan.callF [] 0 rfl rfl rfl (.inl rfl) (by simp) (fun w hm => alive_ct w) ?_   -- tinplate/tinplatelaw03.alive
                              rintro v Ln ⟨rfl, rfl⟩
                              refine Plan.splitB (fun h125 => ?_) (fun h125 => ?_)
                              · skip
                                refine Plan.assign (v := .bool _) rfl rfl rfl ?_
                                refine Plan.done ?_
                                exact HW.ret ⟨rfl, _, [], .tmp rfl .nil, List.nil_sublist _, (by first | rfl | exact absurd (inside_ok h39) h42), rfl⟩
                              · skip
                                cases h125
                            · replace h123 := eq_of_f h123
                              refine Plan.pick (v := .bool _) rfl rfl rfl rfl ?_
                              refine Plan.done ?_
                              refine HW.cond_false rfl ?_
                              refine HW.skip ?_
                              have hS := msum h120 h123
                              have k1 := SumF_len p r
                              have k2 := SumF_len q r
                              refine HW.seq (HW.region [(0, .st), (1, .st), (2, .ef), (3, .st), (4, .st), (5, .st), (6, .st), (7, .st)] rfl rfl ?_)
                              refine Plan.move (v := .slice _ _ _) rfl rfl rfl ?_
                              refine Plan.move (v := .slice _ _ _) rfl rfl rfl ?_
                              refine Plan.callF [] 0 rfl rfl rfl (.inl rfl) (by simp) (fun w hm => Inside_ct (at0 o1) (at0 o2) (SumF p r).1 (SumF q r).1 _ d1 _ d2 w (Res.own_rd enc2 (hm.res (ownV o1 d1 (SumF p r).1) (by simp))) (Res.own_rd enc2 (hm.res (ownV o2 d2 (SumF q r).1) (by simp))) rfl rfl (by omega) (by omega)) ?_   -- tinplate/convex.Inside
                              rintro v Ln ⟨rfl, rfl⟩
                              rw [hS]
                              refine Plan.move (v := .tuple _) rfl rfl rfl ?_
                              refine Plan.extract (v := .bool _) rfl rfl rfl rfl ?_
                              refine Plan.splitB (fun h130 => ?_) (fun h130 => ?_)
                              · skip
                                refine Plan.extract (v := .int _ _) rfl rfl rfl rfl ?_
                                refine Plan.assign (v := .bool _) rfl rfl rfl ?_
                                refine Plan.assign (v := .int _ _) rfl rfl rfl ?_
                                refine Plan.done ?_
                                refine HW.seq (HW.region [(0, .st), (1, .st), (2, .st), (3, .st), (4, .st), (5, .st), (6, .ef), (7, .st), (8, .st)] rfl rfl ?_)
                                refine Plan.move (v := .int _ _) rfl rfl rfl ?_
                                refine Plan.cmp2 rfl rfl rfl rfl rfl (fun h133 => ?_) (fun h133 => ?_)
                                · replace h133 := of_decide_eq_true h133
                                  refine Plan.move (v := .bool _) rfl rfl rfl ?_
                                  refine Plan.move (v := .bool _) rfl rfl rfl ?_
                                  refine Plan.pick (v := .bool _) rfl rfl rfl rfl ?_
                                  refine Plan.move (v := .bool _) rfl rfl rfl ?_
                                  refine Plan.callF [] 0 rfl rfl rfl (.inl rfl) (by simp) (fun w hm => alive_ct w) ?_   -- tinplate/tinplatelaw03.alive
                                  rintro v Ln ⟨rfl, rfl⟩
                                  refine Plan.splitB (fun h138 => ?_) (fun h138 => ?_)
                                  · skip
                                    refine Plan.pick (v := .bool _) rfl rfl rfl rfl ?_
                                    refine Plan.assign (v := .bool _) rfl rfl rfl ?_
                                    refine Plan.done ?_
                                    exact HW.ret ⟨rfl, _, [], .tmp rfl .nil, List.nil_sublist _, (by first | rfl | exact absurd (inside_ok h39) h42), rfl⟩
                                  · skip
                                    cases h138
                                · replace h133 := of_decide_eq_false h133
                                  exact absurd rfl h133
                              · skip
                                cases h130
        · skip
          refine Plan.extract (v := .int _ _) rfl rfl rfl rfl ?_
          refine Plan.assign (v := .bool _) rfl rfl rfl ?_
          refine Plan.assign (v := .int _ _) rfl rfl rfl ?_
          refine Plan.done ?_
          refine HW.seq ?_
          refine HW.seq (HW.region [(0, .st), (1, .st), (2, .st), (3, .st), (4, .st), (5, .st)] rfl rfl ?_)
          refine Plan.move (v := .int _ _) rfl rfl rfl ?_
          refine Plan.cmp2 rfl rfl rfl rfl rfl (fun h42 => ?_) (fun h42 => ?_)
          · replace h42 := ne_of_t h42
            refine Plan.move (v := .bool _) rfl rfl rfl ?_
            refine Plan.no rfl rfl ?_
            refine Plan.no rfl rfl ?_
            refine Plan.pick (v := .bool _) rfl rfl rfl rfl ?_
            refine Plan.done ?_
            refine HW.cond_true rfl ?_
            refine HW.seq (HW.region [(0, .st), (1, .st), (2, .st), (3, .ef), (4, .st), (5, .st)] rfl rfl ?_)
            refine Plan.move (v := .bool _) rfl rfl rfl ?_
            refine Plan.not rfl rfl rfl ?_
            refine Plan.move (v := .bool _) rfl rfl rfl ?_
            refine Plan.callF [] 0 rfl rfl rfl (.inl rfl) (by simp) (fun w hm => alive_ct w) ?_   -- tinplate/tinplatelaw03.alive
            rintro v Ln ⟨rfl, rfl⟩
            refine Plan.splitB (fun h50 => ?_) (fun h50 => ?_)
            · skip
              refine Plan.pick (v := .bool _) rfl rfl rfl rfl ?_
              refine Plan.assign (v := .bool _) rfl rfl rfl ?_
              refine Plan.done ?_
              exact HW.ret ⟨rfl, _, [], .tmp rfl .nil, List.nil_sublist _, (by first | rfl | exact absurd (inside_ok h39) h42), rfl⟩
            · skip
              cases h50
          · replace h42 := eq_of_f h42
            refine Plan.move (v := .bool _) rfl rfl rfl ?_
            refine Plan.move (v := .bool _) rfl rfl rfl ?_
            refine Plan.not rfl rfl rfl ?_
            refine Plan.pick (v := .bool _) rfl rfl rfl rfl ?_
            refine Plan.done ?_
            refine HW.cond_true rfl ?_
            refine HW.seq (HW.region [(0, .st), (1, .st), (2, .st), (3, .ef), (4, .st), (5, .st)] rfl rfl ?_)
            refine Plan.move (v := .bool _) rfl rfl rfl ?_
            refine Plan.not rfl rfl rfl ?_
            refine Plan.move (v := .bool _) rfl rfl rfl ?_
            refine Plan.callF [] 0 rfl rfl rfl (.inl rfl) (by simp) (fun w hm => alive_ct w) ?_   -- tinplate/tinplatelaw03.alive
            rintro v Ln ⟨rfl, rfl⟩
            refine Plan.splitB (fun h50 => ?_) (fun h50 => ?_)
            · skip
              refine Plan.pick (v := .bool _) rfl rfl rfl rfl ?_
              refine Plan.assign (v := .bool _) rfl rfl rfl ?_
              refine Plan.done ?_
              exact HW.ret ⟨rfl, _, [], .tmp rfl .nil, List.nil_sublist _, (by first | rfl | exact absurd (inside_ok h39) h42), rfl⟩
            · skip
              cases h50
      · skip
        refine Plan.not rfl rfl rfl ?_
        refine Plan.pick (v := .bool _) rfl rfl rfl rfl ?_
        refine Plan.done ?_
        refine HW.cond_true rfl ?_
        refine HW.seq (HW.region [(0, .ef), (1, .st)] rfl rfl ?_)
        refine Plan.callF [] 0 rfl rfl rfl (.inl rfl) (by simp) (fun w hm => alive_ct w) ?_   -- tinplate/tinplatelaw03.alive
        rintro v Ln ⟨rfl, rfl⟩
        refine Plan.splitB (fun h34 => ?_) (fun h34 => ?_)
        · skip
          refine Plan.assign (v := .bool _) rfl rfl rfl ?_
          refine Plan.done ?_
          exact HW.ret ⟨rfl, _, [], .tmp rfl .nil, List.nil_sublist _, (by first | rfl | exact absurd (inside_ok h39) h42), rfl⟩
        · skip
          cases h34
    · skip
      refine Plan.not rfl rfl rfl ?_
      refine Plan.pick (v := .bool _) rfl rfl rfl rfl ?_
      refine Plan.move (v := .bool _) rfl rfl rfl ?_
      refine Plan.no rfl rfl ?_
      refine Plan.noE rfl rfl ?_
      refine Plan.no rfl rfl ?_
      refine Plan.pick (v := .bool _) rfl rfl rfl rfl ?_
      refine Plan.done ?_
      refine HW.cond_true rfl ?_
      refine HW.seq (HW.region [(0, .ef), (1, .st)] rfl rfl ?_)
      refine Plan.callF [] 0 rfl rfl rfl (.inl rfl) (by simp) (fun w hm => alive_ct w) ?_   -- tinplate/tinplatelaw03.alive
      rintro v Ln ⟨rfl, rfl⟩
      refine Plan.splitB (fun h34 => ?_) (fun h34 => ?_)
      · skip
        refine Plan.assign (v := .bool _) rfl rfl rfl ?_
        refine Plan.done ?_
        exact HW.ret ⟨rfl, _, [], .tmp rfl .nil, List.nil_sublist _, (by first | rfl | exact absurd (inside_ok h39) h42), rfl⟩
      · skip
        cases h34
  · skip
    refine Plan.not rfl rfl rfl ?_
    refine Plan.move (v := .bool _) rfl rfl rfl ?_
    refine Plan.no rfl rfl ?_
    refine Plan.noE rfl rfl ?_
    refine Plan.no rfl rfl ?_
    refine Plan.pick (v := .bool _) rfl rfl rfl rfl ?_
    refine Plan.move (v := .bool _) rfl rfl rfl ?_
    refine Plan.no rfl rfl ?_
    refine Plan.noE rfl rfl ?_
    refine Plan.no rfl rfl ?_
    refine Plan.pick (v := .bool _) rfl rfl rfl rfl ?_
    refine Plan.done ?_
    refine HW.cond_true rfl ?_
    refine HW.seq (HW.region [(0, .ef), (1, .st)] rfl rfl ?_)
    refine Plan.callF [] 0 rfl rfl rfl (.inl rfl) (by simp) (fun w hm => alive_ct w) ?_   -- tinplate/tinplatelaw03.alive
    rintro v Ln ⟨rfl, rfl⟩
    refine Plan.splitB (fun h34 => ?_) (fun h34 => ?_)
    · skip
      refine Plan.assign (v := .bool _) rfl rfl rfl ?_
      refine Plan.done ?_
      exact HW.ret ⟨rfl, _, [], .tmp rfl .nil, List.nil_sublist _, (by first | rfl | exact absurd (inside_ok h39) h42), rfl⟩
    · skip
      cases h34

end Go.Proofs.Ytoghphikfkdkmaa.V
