/-
  alike, by what is true of polygons (AlikeM).
-/
import Derived.Test.YtoghphikfkdkmaaV17
import Derived.Test.YtoghphikfkdkmaaH9
namespace Go.Proofs.Ytoghphikfkdkmaa.V
open Go Go.RowKit Go.Proofs.Ytoghphikfkdkmaa.H
set_option linter.unusedVariables false
set_option linter.unusedSimpArgs false

theorem undB : P.underlying 4 = some .bool := by kernel_rfl

/-- two pairs of polygons with the same areas, points, and ways to lie -/
structure AlikeM (p q a b : List Pt) : Prop where
  a1 : (AreaF p).2 = 0
  a2 : (AreaF a).2 = 0
  b1 : (PointsF p).2.2 = 0
  b2 : (PointsF a).2.2 = 0
  area : (AreaF p).1 = (AreaF a).1
  inn : (PointsF p).1 = (PointsF a).1
  on : (PointsF p).2.1 = (PointsF a).2.1
  o1 : (OverlapF p q).2 = 0
  o2 : (OverlapF a b).2 = 0
  i1 : (InsideF p q).2 = 0
  i2 : (InsideF a b).2 = 0
  oe : (OverlapF a b).1 = (OverlapF p q).1
  ie : (InsideF a b).1 = (InsideF p q).1

set_option maxRecDepth 10000 in
set_option maxHeartbeats 1000000 in
theorem alike_ct (A1 A2 A3 A4 : Option Addr) (p q a b : List Pt) (n1 c1 n2 c2 n3 c3 n4 c4 : Nat) (hM : AlikeM p q a b) (w : World) (hp : Rd enc 2 w A1 p) (hq : Rd enc 2 w A2 q) (ha : Rd enc 2 w A3 a) (hb : Rd enc 2 w A4 b)
    (hn1 : n1 = p.length) (hn2 : n2 = q.length) (hn3 : n3 = a.length) (hn4 : n4 = b.length) (hl1 : p.length ≤ 1000000) (hl2 : q.length ≤ 1000000) (hl3 : a.length ≤ 1000000) (hl4 : b.length ≤ 1000000) :
    Ct P 29 #[.slice A1 n1 c1, .slice A2 n2 c2, .slice A3 n3 c3, .slice A4 n4 c4] w [] (fun v L => v = .bool true ∧ L = []) := by
  subst hn1 hn2 hn3 hn4
  obtain ⟨ma1, ma2, mb1, mb2, marea, minn, mon, mo1, mo2, mi1, mi2, moe, mie⟩ := hM
  refine Ct.of_body (rs := [.tmp 8]) (N := 122) (L := []) Try.func29 rfl rfl rfl (by kernel_rfl) rfl (Mem.refl w) ?_
  refine HW.seq (HW.region [(0, .st)] rfl rfl ?_)
  refine Plan.assign (v := .bool _) rfl rfl rfl ?_
  refine Plan.done ?_
  refine HW.seq (HW.region [(0, .st), (1, .ef), (2, .st), (3, .st), (4, .st), (5, .st), (6, .st)] rfl rfl ?_)
  refine Plan.move (v := .slice _ _ _) rfl rfl rfl ?_
  refine Plan.callF [] 0 rfl rfl rfl (.inl rfl) (by simp) (fun w hm => Area_ct A1 p _ c1 w (hp.mem hm) rfl hl1) ?_   -- tinplate/convex.Area
  rintro v Ln ⟨rfl, rfl⟩
  refine Plan.move (v := .tuple _) rfl rfl rfl ?_
  refine Plan.extract (v := .int _ _) rfl rfl rfl rfl ?_
  refine Plan.extract (v := .int _ _) rfl rfl rfl rfl ?_
  refine Plan.assign (v := .int _ _) rfl rfl rfl ?_
  refine Plan.assign (v := .int _ _) rfl rfl rfl ?_
  refine Plan.done ?_
  refine HW.seq (HW.region [(0, .st), (1, .ef), (2, .st), (3, .st), (4, .st), (5, .st), (6, .st)] rfl rfl ?_)
  refine Plan.move (v := .slice _ _ _) rfl rfl rfl ?_
  refine Plan.callF [] 0 rfl rfl rfl (.inl rfl) (by simp) (fun w hm => Area_ct A3 a _ c3 w (ha.mem hm) rfl hl3) ?_   -- tinplate/convex.Area
  rintro v Ln ⟨rfl, rfl⟩
  refine Plan.move (v := .tuple _) rfl rfl rfl ?_
  refine Plan.extract (v := .int _ _) rfl rfl rfl rfl ?_
  refine Plan.extract (v := .int _ _) rfl rfl rfl rfl ?_
  refine Plan.assign (v := .int _ _) rfl rfl rfl ?_
  refine Plan.assign (v := .int _ _) rfl rfl rfl ?_
  refine Plan.done ?_
  refine HW.seq (HW.region [(0, .st), (1, .ef), (2, .st), (3, .st), (4, .st), (5, .st), (6, .st), (7, .st), (8, .st)] rfl rfl ?_)
  refine Plan.move (v := .slice _ _ _) rfl rfl rfl ?_
  refine Plan.callF [] 0 rfl rfl rfl (.inl rfl) (by simp) (fun w hm => Points_ct A1 p _ c1 w (hp.mem hm) rfl hl1) ?_   -- tinplate/convex.Points
  rintro v Ln ⟨rfl, rfl⟩
  refine Plan.move (v := .tuple _) rfl rfl rfl ?_
  refine Plan.extract (v := .int _ _) rfl rfl rfl rfl ?_
  refine Plan.extract (v := .int _ _) rfl rfl rfl rfl ?_
  refine Plan.extract (v := .int _ _) rfl rfl rfl rfl ?_
  refine Plan.assign (v := .int _ _) rfl rfl rfl ?_
  refine Plan.assign (v := .int _ _) rfl rfl rfl ?_
  refine Plan.assign (v := .int _ _) rfl rfl rfl ?_
  refine Plan.done ?_
  refine HW.seq (HW.region [(0, .st), (1, .ef), (2, .st), (3, .st), (4, .st), (5, .st), (6, .st), (7, .st), (8, .st)] rfl rfl ?_)
  refine Plan.move (v := .slice _ _ _) rfl rfl rfl ?_
  refine Plan.callF [] 0 rfl rfl rfl (.inl rfl) (by simp) (fun w hm => Points_ct A3 a _ c3 w (ha.mem hm) rfl hl3) ?_   -- tinplate/convex.Points
  rintro v Ln ⟨rfl, rfl⟩
  refine Plan.move (v := .tuple _) rfl rfl rfl ?_
  refine Plan.extract (v := .int _ _) rfl rfl rfl rfl ?_
  refine Plan.extract (v := .int _ _) rfl rfl rfl rfl ?_
  refine Plan.extract (v := .int _ _) rfl rfl rfl rfl ?_
  refine Plan.assign (v := .int _ _) rfl rfl rfl ?_
  refine Plan.assign (v := .int _ _) rfl rfl rfl ?_
  refine Plan.assign (v := .int _ _) rfl rfl rfl ?_
  refine Plan.done ?_
  refine HW.seq ?_
  refine HW.seq (HW.region [(0, .st), (1, .st), (2, .st), (3, .st), (4, .st), (5, .st), (6, .st), (7, .st), (8, .st), (9, .st), (10, .st), (11, .st), (12, .st), (13, .st), (14, .st), (15, .st), (16, .st), (17, .st), (18, .st), (19, .st), (20, .st), (21, .st), (22, .st), (23, .st), (24, .st), (25, .st), (26, .st), (27, .st), (28, .st)] rfl rfl ?_)
  refine Plan.move (v := .int _ _) rfl rfl rfl ?_
  refine Plan.cmp2 rfl rfl rfl rfl rfl (fun h46 => ?_) (fun h46 => ?_)
  · replace h46 := ne_of_t h46
    omega
  · replace h46 := eq_of_f h46
    refine Plan.move (v := .bool _) rfl rfl rfl ?_
    refine Plan.move (v := .int _ _) rfl rfl rfl ?_
    refine Plan.cmp2 rfl rfl rfl rfl rfl (fun h49 => ?_) (fun h49 => ?_)
    · replace h49 := ne_of_t h49
      omega
    · replace h49 := eq_of_f h49
      refine Plan.pick (v := .bool _) rfl rfl rfl rfl ?_
      refine Plan.move (v := .bool _) rfl rfl rfl ?_
      refine Plan.move (v := .int _ _) rfl rfl rfl ?_
      refine Plan.cmp2 rfl rfl rfl rfl rfl (fun h53 => ?_) (fun h53 => ?_)
      · replace h53 := ne_of_t h53
        omega
      · replace h53 := eq_of_f h53
        refine Plan.pick (v := .bool _) rfl rfl rfl rfl ?_
        refine Plan.move (v := .bool _) rfl rfl rfl ?_
        refine Plan.move (v := .int _ _) rfl rfl rfl ?_
        refine Plan.cmp2 rfl rfl rfl rfl rfl (fun h57 => ?_) (fun h57 => ?_)
        · replace h57 := ne_of_t h57
          omega
        · replace h57 := eq_of_f h57
          refine Plan.pick (v := .bool _) rfl rfl rfl rfl ?_
          refine Plan.move (v := .bool _) rfl rfl rfl ?_
          refine Plan.move (v := .int _ _) rfl rfl rfl ?_
          refine Plan.move (v := .int _ _) rfl rfl rfl ?_
          refine Plan.cmp2 rfl rfl rfl rfl rfl (fun h62 => ?_) (fun h62 => ?_)
          · replace h62 := ne_of_t h62
            omega
          · replace h62 := eq_of_f h62
            refine Plan.pick (v := .bool _) rfl rfl rfl rfl ?_
            refine Plan.move (v := .bool _) rfl rfl rfl ?_
            refine Plan.move (v := .int _ _) rfl rfl rfl ?_
            refine Plan.move (v := .int _ _) rfl rfl rfl ?_
            refine Plan.cmp2 rfl rfl rfl rfl rfl (fun h67 => ?_) (fun h67 => ?_)
            · replace h67 := ne_of_t h67
              omega
            · replace h67 := eq_of_f h67
              refine Plan.pick (v := .bool _) rfl rfl rfl rfl ?_
              refine Plan.move (v := .bool _) rfl rfl rfl ?_
              refine Plan.move (v := .int _ _) rfl rfl rfl ?_
              refine Plan.move (v := .int _ _) rfl rfl rfl ?_
              refine Plan.cmp2 rfl rfl rfl rfl rfl (fun h72 => ?_) (fun h72 => ?_)
              · replace h72 := ne_of_t h72
                omega
              · replace h72 := eq_of_f h72
                refine Plan.pick (v := .bool _) rfl rfl rfl rfl ?_
                refine Plan.done ?_
                refine HW.cond_false rfl ?_
                refine HW.skip ?_
                refine HW.seq (HW.region [(0, .st), (1, .st), (2, .ef), (3, .st), (4, .st), (5, .st), (6, .st), (7, .st)] rfl rfl ?_)
                refine Plan.move (v := .slice _ _ _) rfl rfl rfl ?_
                refine Plan.move (v := .slice _ _ _) rfl rfl rfl ?_
                refine Plan.callF [] 0 rfl rfl rfl (.inl rfl) (by simp) (fun w hm => Overlap_ct A1 A2 p q _ c1 _ c2 w (hp.mem hm) (hq.mem hm) rfl rfl hl1 hl2) ?_   -- tinplate/convex.Overlap
                rintro v Ln ⟨rfl, rfl⟩
                refine Plan.move (v := .tuple _) rfl rfl rfl ?_
                refine Plan.extract (v := .bool _) rfl rfl rfl rfl ?_
                refine Plan.splitB (fun h78 => ?_) (fun h78 => ?_)
                · skip
                  refine Plan.extract (v := .int _ _) rfl rfl rfl rfl ?_
                  refine Plan.assign (v := .bool _) rfl rfl rfl ?_
                  refine Plan.assign (v := .int _ _) rfl rfl rfl ?_
                  refine Plan.done ?_
                  refine HW.seq (HW.region [(0, .st), (1, .st), (2, .ef), (3, .st), (4, .st), (5, .st), (6, .st), (7, .st)] rfl rfl ?_)
                  refine Plan.move (v := .slice _ _ _) rfl rfl rfl ?_
                  refine Plan.move (v := .slice _ _ _) rfl rfl rfl ?_
                  refine Plan.callF [] 0 rfl rfl rfl (.inl rfl) (by simp) (fun w hm => Overlap_ct A3 A4 a b _ c3 _ c4 w (ha.mem hm) (hb.mem hm) rfl rfl hl3 hl4) ?_   -- tinplate/convex.Overlap
                  rintro v Ln ⟨rfl, rfl⟩
                  rw [moe, h78]
                  refine Plan.move (v := .tuple _) rfl rfl rfl ?_
                  refine Plan.extract (v := .bool _) rfl rfl rfl rfl ?_
                  refine Plan.extract (v := .int _ _) rfl rfl rfl rfl ?_
                  refine Plan.assign (v := .bool _) rfl rfl rfl ?_
                  refine Plan.assign (v := .int _ _) rfl rfl rfl ?_
                  refine Plan.done ?_
                  refine HW.seq (HW.region [(0, .st), (1, .st), (2, .ef), (3, .st), (4, .st), (5, .st), (6, .st), (7, .st)] rfl rfl ?_)
                  refine Plan.move (v := .slice _ _ _) rfl rfl rfl ?_
                  refine Plan.move (v := .slice _ _ _) rfl rfl rfl ?_
                  refine Plan.callF [] 0 rfl rfl rfl (.inl rfl) (by simp) (fun w hm => Inside_ct A1 A2 p q _ c1 _ c2 w (hp.mem hm) (hq.mem hm) rfl rfl hl1 hl2) ?_   -- tinplate/convex.Inside
                  rintro v Ln ⟨rfl, rfl⟩
                  refine Plan.move (v := .tuple _) rfl rfl rfl ?_
                  refine Plan.extract (v := .bool _) rfl rfl rfl rfl ?_
                  refine Plan.splitB (fun h90 => ?_) (fun h90 => ?_)
                  · skip
                    refine Plan.extract (v := .int _ _) rfl rfl rfl rfl ?_
                    refine Plan.assign (v := .bool _) rfl rfl rfl ?_
                    refine Plan.assign (v := .int _ _) rfl rfl rfl ?_
                    refine Plan.done ?_
                    refine HW.seq (HW.region [(0, .st), (1, .st), (2, .ef), (3, .st), (4, .st), (5, .st), (6, .st), (7, .st)] rfl rfl ?_)
                    refine Plan.move (v := .slice _ _ _) rfl rfl rfl ?_
                    refine Plan.move (v := .slice _ _ _) rfl rfl rfl ?_
                    refine Plan.callF [] 0 rfl rfl rfl (.inl rfl) (by simp) (fun w hm => Inside_ct A3 A4 a b _ c3 _ c4 w (ha.mem hm) (hb.mem hm) rfl rfl hl3 hl4) ?_   -- tinplate/convex.Inside
                    rintro v Ln ⟨rfl, rfl⟩
                    rw [mie, h90]
                    refine Plan.move (v := .tuple _) rfl rfl rfl ?_
                    refine Plan.extract (v := .bool _) rfl rfl rfl rfl ?_
                    refine Plan.extract (v := .int _ _) rfl rfl rfl rfl ?_
                    refine Plan.assign (v := .bool _) rfl rfl rfl ?_
                    refine Plan.assign (v := .int _ _) rfl rfl rfl ?_
                    refine Plan.done ?_
                    refine HW.seq (HW.region [(0, .st), (1, .st), (2, .st), (3, .st), (4, .st), (5, .st), (6, .st), (7, .st), (8, .st), (9, .st), (10, .st), (11, .st), (12, .st), (13, .st), (14, .st), (15, .st), (16, .st), (17, .st), (18, .st), (19, .st), (20, .st), (21, .st), (22, .st), (23, .st), (24, .st)] rfl rfl ?_)
                    refine Plan.move (v := .int _ _) rfl rfl rfl ?_
                    refine Plan.cmp2 rfl rfl rfl rfl rfl (fun h99 => ?_) (fun h99 => ?_)
                    · replace h99 := of_decide_eq_true h99
                      refine Plan.move (v := .bool _) rfl rfl rfl ?_
                      refine Plan.move (v := .int _ _) rfl rfl rfl ?_
                      refine Plan.cmp2 rfl rfl rfl rfl rfl (fun h102 => ?_) (fun h102 => ?_)
                      · replace h102 := of_decide_eq_true h102
                        refine Plan.pick (v := .bool _) rfl rfl rfl rfl ?_
                        refine Plan.move (v := .bool _) rfl rfl rfl ?_
                        refine Plan.move (v := .int _ _) rfl rfl rfl ?_
                        refine Plan.cmp2 rfl rfl rfl rfl rfl (fun h106 => ?_) (fun h106 => ?_)
                        · replace h106 := of_decide_eq_true h106
                          refine Plan.pick (v := .bool _) rfl rfl rfl rfl ?_
                          refine Plan.move (v := .bool _) rfl rfl rfl ?_
                          refine Plan.move (v := .int _ _) rfl rfl rfl ?_
                          refine Plan.cmp2 rfl rfl rfl rfl rfl (fun h110 => ?_) (fun h110 => ?_)
                          · replace h110 := of_decide_eq_true h110
                            refine Plan.pick (v := .bool _) rfl rfl rfl rfl ?_
                            refine Plan.move (v := .bool _) rfl rfl rfl ?_
                            refine Plan.move (v := .bool _) rfl rfl rfl ?_
                            refine Plan.move (v := .bool _) rfl rfl rfl ?_
                            refine Plan.eqB rfl rfl undB rfl rfl ?_
                            refine Plan.pick (v := .bool _) rfl rfl rfl rfl ?_
                            refine Plan.move (v := .bool _) rfl rfl rfl ?_
                            refine Plan.move (v := .bool _) rfl rfl rfl ?_
                            refine Plan.move (v := .bool _) rfl rfl rfl ?_
                            refine Plan.eqB rfl rfl undB rfl rfl ?_
                            refine Plan.pick (v := .bool _) rfl rfl rfl rfl ?_
                            refine Plan.assign (v := .bool _) rfl rfl rfl ?_
                            refine Plan.done ?_
                            exact HW.ret ⟨rfl, _, [], .tmp rfl .nil, List.nil_sublist _, rfl, rfl⟩
                          · replace h110 := of_decide_eq_false h110
                            omega
                        · replace h106 := of_decide_eq_false h106
                          omega
                      · replace h102 := of_decide_eq_false h102
                        omega
                    · replace h99 := of_decide_eq_false h99
                      omega
                  · skip
                    refine Plan.extract (v := .int _ _) rfl rfl rfl rfl ?_
                    refine Plan.assign (v := .bool _) rfl rfl rfl ?_
                    refine Plan.assign (v := .int _ _) rfl rfl rfl ?_
                    refine Plan.done ?_
                    refine HW.seq (HW.region [(0, .st), (1, .st), (2, .ef), (3, .st), (4, .st), (5, .st), (6, .st), (7, .st)] rfl rfl ?_)
                    refine Plan.move (v := .slice _ _ _) rfl rfl rfl ?_
                    refine Plan.move (v := .slice _ _ _) rfl rfl rfl ?_
                    refine Plan.callF [] 0 rfl rfl rfl (.inl rfl) (by simp) (fun w hm => Inside_ct A3 A4 a b _ c3 _ c4 w (ha.mem hm) (hb.mem hm) rfl rfl hl3 hl4) ?_   -- tinplate/convex.Inside
                    rintro v Ln ⟨rfl, rfl⟩
                    rw [mie, h90]
                    refine Plan.move (v := .tuple _) rfl rfl rfl ?_
                    refine Plan.extract (v := .bool _) rfl rfl rfl rfl ?_
                    refine Plan.extract (v := .int _ _) rfl rfl rfl rfl ?_
                    refine Plan.assign (v := .bool _) rfl rfl rfl ?_
                    refine Plan.assign (v := .int _ _) rfl rfl rfl ?_
                    refine Plan.done ?_
                    refine HW.seq (HW.region [(0, .st), (1, .st), (2, .st), (3, .st), (4, .st), (5, .st), (6, .st), (7, .st), (8, .st), (9, .st), (10, .st), (11, .st), (12, .st), (13, .st), (14, .st), (15, .st), (16, .st), (17, .st), (18, .st), (19, .st), (20, .st), (21, .st), (22, .st), (23, .st), (24, .st)] rfl rfl ?_)
                    refine Plan.move (v := .int _ _) rfl rfl rfl ?_
                    refine Plan.cmp2 rfl rfl rfl rfl rfl (fun h99 => ?_) (fun h99 => ?_)
                    · replace h99 := of_decide_eq_true h99
                      refine Plan.move (v := .bool _) rfl rfl rfl ?_
                      refine Plan.move (v := .int _ _) rfl rfl rfl ?_
                      refine Plan.cmp2 rfl rfl rfl rfl rfl (fun h102 => ?_) (fun h102 => ?_)
                      · replace h102 := of_decide_eq_true h102
                        refine Plan.pick (v := .bool _) rfl rfl rfl rfl ?_
                        refine Plan.move (v := .bool _) rfl rfl rfl ?_
                        refine Plan.move (v := .int _ _) rfl rfl rfl ?_
                        refine Plan.cmp2 rfl rfl rfl rfl rfl (fun h106 => ?_) (fun h106 => ?_)
                        · replace h106 := of_decide_eq_true h106
                          refine Plan.pick (v := .bool _) rfl rfl rfl rfl ?_
                          refine Plan.move (v := .bool _) rfl rfl rfl ?_
                          refine Plan.move (v := .int _ _) rfl rfl rfl ?_
                          refine Plan.cmp2 rfl rfl rfl rfl rfl (fun h110 => ?_) (fun h110 => ?_)
                          · replace h110 := of_decide_eq_true h110
                            refine Plan.pick (v := .bool _) rfl rfl rfl rfl ?_
                            refine Plan.move (v := .bool _) rfl rfl rfl ?_
                            refine Plan.move (v := .bool _) rfl rfl rfl ?_
                            refine Plan.move (v := .bool _) rfl rfl rfl ?_
                            refine Plan.eqB rfl rfl undB rfl rfl ?_
                            refine Plan.pick (v := .bool _) rfl rfl rfl rfl ?_
                            refine Plan.move (v := .bool _) rfl rfl rfl ?_
                            refine Plan.move (v := .bool _) rfl rfl rfl ?_
                            refine Plan.move (v := .bool _) rfl rfl rfl ?_
                            refine Plan.eqB rfl rfl undB rfl rfl ?_
                            refine Plan.pick (v := .bool _) rfl rfl rfl rfl ?_
                            refine Plan.assign (v := .bool _) rfl rfl rfl ?_
                            refine Plan.done ?_
                            exact HW.ret ⟨rfl, _, [], .tmp rfl .nil, List.nil_sublist _, rfl, rfl⟩
                          · replace h110 := of_decide_eq_false h110
                            omega
                        · replace h106 := of_decide_eq_false h106
                          omega
                      · replace h102 := of_decide_eq_false h102
                        omega
                    · replace h99 := of_decide_eq_false h99
                      omega
                · skip
                  refine Plan.extract (v := .int _ _) rfl rfl rfl rfl ?_
                  refine Plan.assign (v := .bool _) rfl rfl rfl ?_
                  refine Plan.assign (v := .int _ _) rfl rfl rfl ?_
                  refine Plan.done ?_
                  refine HW.seq (HW.region [(0, .st), (1, .st), (2, .ef), (3, .st), (4, .st), (5, .st), (6, .st), (7, .st)] rfl rfl ?_)
                  refine Plan.move (v := .slice _ _ _) rfl rfl rfl ?_
                  refine Plan.move (v := .slice _ _ _) rfl rfl rfl ?_
                  refine Plan.callF [] 0 rfl rfl rfl (.inl rfl) (by simp) (fun w hm => Overlap_ct A3 A4 a b _ c3 _ c4 w (ha.mem hm) (hb.mem hm) rfl rfl hl3 hl4) ?_   -- tinplate/convex.Overlap
                  rintro v Ln ⟨rfl, rfl⟩
                  rw [moe, h78]
                  refine Plan.move (v := .tuple _) rfl rfl rfl ?_
                  refine Plan.extract (v := .bool _) rfl rfl rfl rfl ?_
                  refine Plan.extract (v := .int _ _) rfl rfl rfl rfl ?_
                  refine Plan.assign (v := .bool _) rfl rfl rfl ?_
                  refine Plan.assign (v := .int _ _) rfl rfl rfl ?_
                  refine Plan.done ?_
                  refine HW.seq (HW.region [(0, .st), (1, .st), (2, .ef), (3, .st), (4, .st), (5, .st), (6, .st), (7, .st)] rfl rfl ?_)
                  refine Plan.move (v := .slice _ _ _) rfl rfl rfl ?_
                  refine Plan.move (v := .slice _ _ _) rfl rfl rfl ?_
                  refine Plan.callF [] 0 rfl rfl rfl (.inl rfl) (by simp) (fun w hm => Inside_ct A1 A2 p q _ c1 _ c2 w (hp.mem hm) (hq.mem hm) rfl rfl hl1 hl2) ?_   -- tinplate/convex.Inside
                  rintro v Ln ⟨rfl, rfl⟩
                  refine Plan.move (v := .tuple _) rfl rfl rfl ?_
                  refine Plan.extract (v := .bool _) rfl rfl rfl rfl ?_
                  refine Plan.splitB (fun h90 => ?_) (fun h90 => ?_)
                  · skip
                    refine Plan.extract (v := .int _ _) rfl rfl rfl rfl ?_
                    refine Plan.assign (v := .bool _) rfl rfl rfl ?_
                    refine Plan.assign (v := .int _ _) rfl rfl rfl ?_
                    refine Plan.done ?_
                    refine HW.seq (HW.region [(0, .st), (1, .st), (2, .ef), (3, .st), (4, .st), (5, .st), (6, .st), (7, .st)] rfl rfl ?_)
                    refine Plan.move (v := .slice _ _ _) rfl rfl rfl ?_
                    refine Plan.move (v := .slice _ _ _) rfl rfl rfl ?_
                    refine Plan.callF [] 0 rfl rfl rfl (.inl rfl) (by simp) (fun w hm => Inside_ct A3 A4 a b _ c3 _ c4 w (ha.mem hm) (hb.mem hm) rfl rfl hl3 hl4) ?_   -- tinplate/convex.Inside
                    rintro v Ln ⟨rfl, rfl⟩
                    rw [mie, h90]
                    refine Plan.move (v := .tuple _) rfl rfl rfl ?_
                    refine Plan.extract (v := .bool _) rfl rfl rfl rfl ?_
                    refine Plan.extract (v := .int _ _) rfl rfl rfl rfl ?_
                    refine Plan.assign (v := .bool _) rfl rfl rfl ?_
                    refine Plan.assign (v := .int _ _) rfl rfl rfl ?_
                    refine Plan.done ?_
                    refine HW.seq (HW.region [(0, .st), (1, .st), (2, .st), (3, .st), (4, .st), (5, .st), (6, .st), (7, .st), (8, .st), (9, .st), (10, .st), (11, .st), (12, .st), (13, .st), (14, .st), (15, .st), (16, .st), (17, .st), (18, .st), (19, .st), (20, .st), (21, .st), (22, .st), (23, .st), (24, .st)] rfl rfl ?_)
                    refine Plan.move (v := .int _ _) rfl rfl rfl ?_
                    refine Plan.cmp2 rfl rfl rfl rfl rfl (fun h99 => ?_) (fun h99 => ?_)
                    · replace h99 := of_decide_eq_true h99
                      refine Plan.move (v := .bool _) rfl rfl rfl ?_
                      refine Plan.move (v := .int _ _) rfl rfl rfl ?_
                      refine Plan.cmp2 rfl rfl rfl rfl rfl (fun h102 => ?_) (fun h102 => ?_)
                      · replace h102 := of_decide_eq_true h102
                        refine Plan.pick (v := .bool _) rfl rfl rfl rfl ?_
                        refine Plan.move (v := .bool _) rfl rfl rfl ?_
                        refine Plan.move (v := .int _ _) rfl rfl rfl ?_
                        refine Plan.cmp2 rfl rfl rfl rfl rfl (fun h106 => ?_) (fun h106 => ?_)
                        · replace h106 := of_decide_eq_true h106
                          refine Plan.pick (v := .bool _) rfl rfl rfl rfl ?_
                          refine Plan.move (v := .bool _) rfl rfl rfl ?_
                          refine Plan.move (v := .int _ _) rfl rfl rfl ?_
                          refine Plan.cmp2 rfl rfl rfl rfl rfl (fun h110 => ?_) (fun h110 => ?_)
                          · replace h110 := of_decide_eq_true h110
                            refine Plan.pick (v := .bool _) rfl rfl rfl rfl ?_
                            refine Plan.move (v := .bool _) rfl rfl rfl ?_
                            refine Plan.move (v := .bool _) rfl rfl rfl ?_
                            refine Plan.move (v := .bool _) rfl rfl rfl ?_
                            refine Plan.eqB rfl rfl undB rfl rfl ?_
                            refine Plan.pick (v := .bool _) rfl rfl rfl rfl ?_
                            refine Plan.move (v := .bool _) rfl rfl rfl ?_
                            refine Plan.move (v := .bool _) rfl rfl rfl ?_
                            refine Plan.move (v := .bool _) rfl rfl rfl ?_
                            refine Plan.eqB rfl rfl undB rfl rfl ?_
                            refine Plan.pick (v := .bool _) rfl rfl rfl rfl ?_
                            refine Plan.assign (v := .bool _) rfl rfl rfl ?_
                            refine Plan.done ?_
                            exact HW.ret ⟨rfl, _, [], .tmp rfl .nil, List.nil_sublist _, rfl, rfl⟩
                          · replace h110 := of_decide_eq_false h110
                            omega
                        · replace h106 := of_decide_eq_false h106
                          omega
                      · replace h102 := of_decide_eq_false h102
                        omega
                    · replace h99 := of_decide_eq_false h99
                      omega
                  · skip
                    refine Plan.extract (v := .int _ _) rfl rfl rfl rfl ?_
                    refine Plan.assign (v := .bool _) rfl rfl rfl ?_
                    refine Plan.assign (v := .int _ _) rfl rfl rfl ?_
                    refine Plan.done ?_
                    refine HW.seq (HW.region [(0, .st), (1, .st), (2, .ef), (3, .st), (4, .st), (5, .st), (6, .st), (7, .st)] rfl rfl ?_)
                    refine Plan.move (v := .slice _ _ _) rfl rfl rfl ?_
                    refine Plan.move (v := .slice _ _ _) rfl rfl rfl ?_
                    refine Plan.callF [] 0 rfl rfl rfl (.inl rfl) (by simp) (fun w hm => Inside_ct A3 A4 a b _ c3 _ c4 w (ha.mem hm) (hb.mem hm) rfl rfl hl3 hl4) ?_   -- tinplate/convex.Inside
                    rintro v Ln ⟨rfl, rfl⟩
                    rw [mie, h90]
                    refine Plan.move (v := .tuple _) rfl rfl rfl ?_
                    refine Plan.extract (v := .bool _) rfl rfl rfl rfl ?_
                    refine Plan.extract (v := .int _ _) rfl rfl rfl rfl ?_
                    refine Plan.assign (v := .bool _) rfl rfl rfl ?_
                    refine Plan.assign (v := .int _ _) rfl rfl rfl ?_
                    refine Plan.done ?_
                    refine HW.seq (HW.region [(0, .st), (1, .st), (2, .st), (3, .st), (4, .st), (5, .st), (6, .st), (7, .st), (8, .st), (9, .st), (10, .st), (11, .st), (12, .st), (13, .st), (14, .st), (15, .st), (16, .st), (17, .st), (18, .st), (19, .st), (20, .st), (21, .st), (22, .st), (23, .st), (24, .st)] rfl rfl ?_)
                    refine Plan.move (v := .int _ _) rfl rfl rfl ?_
                    refine Plan.cmp2 rfl rfl rfl rfl rfl (fun h99 => ?_) (fun h99 => ?_)
                    · replace h99 := of_decide_eq_true h99
                      refine Plan.move (v := .bool _) rfl rfl rfl ?_
                      refine Plan.move (v := .int _ _) rfl rfl rfl ?_
                      refine Plan.cmp2 rfl rfl rfl rfl rfl (fun h102 => ?_) (fun h102 => ?_)
                      · replace h102 := of_decide_eq_true h102
                        refine Plan.pick (v := .bool _) rfl rfl rfl rfl ?_
                        refine Plan.move (v := .bool _) rfl rfl rfl ?_
                        refine Plan.move (v := .int _ _) rfl rfl rfl ?_
                        refine Plan.cmp2 rfl rfl rfl rfl rfl (fun h106 => ?_) (fun h106 => ?_)
                        · replace h106 := of_decide_eq_true h106
                          refine Plan.pick (v := .bool _) rfl rfl rfl rfl ?_
                          refine Plan.move (v := .bool _) rfl rfl rfl ?_
                          refine Plan.move (v := .int _ _) rfl rfl rfl ?_
                          refine Plan.cmp2 rfl rfl rfl rfl rfl (fun h110 => ?_) (fun h110 => ?_)
                          · replace h110 := of_decide_eq_true h110
                            refine Plan.pick (v := .bool _) rfl rfl rfl rfl ?_
                            refine Plan.move (v := .bool _) rfl rfl rfl ?_
                            refine Plan.move (v := .bool _) rfl rfl rfl ?_
                            refine Plan.move (v := .bool _) rfl rfl rfl ?_
                            refine Plan.eqB rfl rfl undB rfl rfl ?_
                            refine Plan.pick (v := .bool _) rfl rfl rfl rfl ?_
                            refine Plan.move (v := .bool _) rfl rfl rfl ?_
                            refine Plan.move (v := .bool _) rfl rfl rfl ?_
                            refine Plan.move (v := .bool _) rfl rfl rfl ?_
                            refine Plan.eqB rfl rfl undB rfl rfl ?_
                            refine Plan.pick (v := .bool _) rfl rfl rfl rfl ?_
                            refine Plan.assign (v := .bool _) rfl rfl rfl ?_
                            refine Plan.done ?_
                            exact HW.ret ⟨rfl, _, [], .tmp rfl .nil, List.nil_sublist _, rfl, rfl⟩
                          · replace h110 := of_decide_eq_false h110
                            omega
                        · replace h106 := of_decide_eq_false h106
                          omega
                      · replace h102 := of_decide_eq_false h102
                        omega
                    · replace h99 := of_decide_eq_false h99
                      omega

end Go.Proofs.Ytoghphikfkdkmaa.V
