/-
  alive.
-/
import Derived.Test.YtoghphikfkdkmaaV14
import Derived.Test.YtoghphikfkdkmaaV15
import Derived.Test.YtoghphikfkdkmaaV16
namespace Go.Proofs.Ytoghphikfkdkmaa.V
open Go Go.RowKit Go.Proofs.Ytoghphikfkdkmaa.H
set_option linter.unusedVariables false
set_option linter.unusedSimpArgs false

theorem bs3 (a b c d e f : Int) (w : World) : (Instr.buildSlice 22 3 #[(0, vec a b), (1, vec c d), (2, vec e f)]).run P w = .ok (.slice (some ⟨w.heap.size, 0, none⟩) 3 3) (w.alloc (.cells #[int a, int b, int c, int d, int e, int f] 36 (0, 0))) := by kernel_rfl

theorem sumF_tri : SumF tri trf = (hex, 0) := by rw [SumF, if_pos (by rw [valid_tri, valid_trf]; rfl), sum_tri]; decide

set_option maxRecDepth 10000 in
theorem alive_ct (w : World) : Ct P 9 #[] w [] (fun v L => v = .bool true ∧ L = []) := by
  refine Ct.of_body (rs := [.tmp 0]) (N := 51) (L := []) Try.func9 rfl rfl rfl (by kernel_rfl) rfl (Mem.refl w) ?_
  refine HW.seq (HW.region [(0, .st)] rfl rfl ?_)
  refine Plan.assign (v := .bool _) rfl rfl rfl ?_
  refine Plan.done ?_
  refine HW.seq (HW.region [(0, .st), (1, .st), (2, .st), (3, .ef), (4, .st)] rfl rfl ?_)
  refine Plan.build rfl rfl rfl (bldV _ _) ?_
  refine Plan.build rfl rfl rfl (bldV _ _) ?_
  refine Plan.build rfl rfl rfl (bldV _ _) ?_
  refine Plan.buildOwn (xs := tri) (enc := enc) (sz := 2) rfl rfl rfl (bs3 _ _ _ _ _ _) rfl rfl (by simp) rfl fun b11 => ?_
  refine Plan.assign (v := .slice _ _ _) rfl rfl rfl ?_
  refine Plan.done ?_
  refine HW.seq (HW.region [(0, .st), (1, .ef), (2, .st), (3, .st), (4, .st), (5, .st), (6, .st)] rfl rfl ?_)
  refine Plan.move (v := .slice _ _ _) rfl rfl rfl ?_
  refine Plan.callF [] 0 rfl rfl rfl (.inl rfl) (by simp) (fun w hm => Flip_ct (some ⟨b11, 0, none⟩) tri 3 3 w (Res.own_rd enc2 (hm.res _ List.mem_cons_self)) rfl (by decide)) ?_   -- tinplate/convex.Flip
  rintro v Ln ⟨o1, c1, rfl, rfl⟩
  rw [flip_tri]
  refine Plan.move (v := .tuple _) rfl rfl rfl ?_
  refine Plan.extract (v := .slice _ _ _) rfl rfl rfl rfl ?_
  refine Plan.extract (v := .int _ _) rfl rfl rfl rfl ?_
  refine Plan.assign (v := .slice _ _ _) rfl rfl rfl ?_
  refine Plan.assign (v := .int _ _) rfl rfl rfl ?_
  refine Plan.done ?_
  dsimp only
  refine HW.seq (HW.region [(0, .st), (1, .st), (2, .ef), (3, .st), (4, .st), (5, .st), (6, .st), (7, .st)] rfl rfl ?_)
  refine Plan.move (v := .slice _ _ _) rfl rfl rfl ?_
  refine Plan.move (v := .slice _ _ _) rfl rfl rfl ?_
  refine Plan.callF [] 0 rfl rfl rfl (.inl rfl) (by simp) (fun w hm => Sum_ct (some ⟨b11, 0, none⟩) (at0 o1) tri trf 3 3 3 c1 w (Res.own_rd enc2 (hm.res (ownV (some b11) 3 tri) (by simp))) (Res.own_rd enc2 (hm.res _ List.mem_cons_self)) rfl rfl (by decide) (by decide)) ?_   -- tinplate/convex.Sum
  rintro v Ln ⟨o2, c2, rfl, rfl⟩
  rw [sumF_tri]
  refine Plan.move (v := .tuple _) rfl rfl rfl ?_
  refine Plan.extract (v := .slice _ _ _) rfl rfl rfl rfl ?_
  refine Plan.extract (v := .int _ _) rfl rfl rfl rfl ?_
  refine Plan.assign (v := .slice _ _ _) rfl rfl rfl ?_
  refine Plan.assign (v := .int _ _) rfl rfl rfl ?_
  refine Plan.done ?_
  dsimp only
  refine HW.seq (HW.region [(0, .st), (1, .ef), (2, .st), (3, .st), (4, .st), (5, .st), (6, .st)] rfl rfl ?_)
  refine Plan.move (v := .slice _ _ _) rfl rfl rfl ?_
  refine Plan.callF [] 0 rfl rfl rfl (.inl rfl) (by simp) (fun w hm => Area_ct (at0 o2) hex 6 c2 w (Res.own_rd enc2 (hm.res _ List.mem_cons_self)) rfl (by decide)) ?_   -- tinplate/convex.Area
  rintro v Ln ⟨rfl, rfl⟩
  rw [area_hex]
  refine Plan.move (v := .tuple _) rfl rfl rfl ?_
  refine Plan.extract (v := .int _ _) rfl rfl rfl rfl ?_
  refine Plan.extract (v := .int _ _) rfl rfl rfl rfl ?_
  refine Plan.assign (v := .int _ _) rfl rfl rfl ?_
  refine Plan.assign (v := .int _ _) rfl rfl rfl ?_
  refine Plan.done ?_
  refine HW.seq (HW.region [(0, .st), (1, .st), (2, .st), (3, .st), (4, .st), (5, .st), (6, .st), (7, .st), (8, .st), (9, .st), (10, .st), (11, .st), (12, .st), (13, .st), (14, .st), (15, .st), (16, .st), (17, .st), (18, .st), (19, .st), (20, .st), (21, .ef), (22, .st), (23, .st)] rfl rfl ?_)
  refine Plan.move (v := .int _ _) rfl rfl rfl ?_
  refine Plan.cmp2 rfl rfl rfl rfl rfl (fun h29 => ?_) (fun h29 => ?_)
  · replace h29 := of_decide_eq_true h29
    refine Plan.move (v := .bool _) rfl rfl rfl ?_
    refine Plan.move (v := .int _ _) rfl rfl rfl ?_
    refine Plan.cmp2 rfl rfl rfl rfl rfl (fun h32 => ?_) (fun h32 => ?_)
    · replace h32 := of_decide_eq_true h32
      refine Plan.pick (v := .bool _) rfl rfl rfl rfl ?_
      refine Plan.move (v := .bool _) rfl rfl rfl ?_
      refine Plan.move (v := .int _ _) rfl rfl rfl ?_
      refine Plan.cmp2 rfl rfl rfl rfl rfl (fun h36 => ?_) (fun h36 => ?_)
      · replace h36 := of_decide_eq_true h36
        refine Plan.pick (v := .bool _) rfl rfl rfl rfl ?_
        refine Plan.move (v := .bool _) rfl rfl rfl ?_
        refine Plan.move (v := .slice _ _ _) rfl rfl rfl ?_
        refine Plan.len rfl rfl slV rfl ?_
        refine Plan.cmp2 rfl rfl rfl rfl rfl (fun h41 => ?_) (fun h41 => ?_)
        · replace h41 := of_decide_eq_true h41
          refine Plan.pick (v := .bool _) rfl rfl rfl rfl ?_
          refine Plan.move (v := .bool _) rfl rfl rfl ?_
          refine Plan.move (v := .int _ _) rfl rfl rfl ?_
          refine Plan.cmp2 rfl rfl rfl rfl rfl (fun h45 => ?_) (fun h45 => ?_)
          · replace h45 := of_decide_eq_true h45
            refine Plan.pick (v := .bool _) rfl rfl rfl rfl ?_
            refine Plan.move (v := .bool _) rfl rfl rfl ?_
            refine Plan.move (v := .slice _ _ _) rfl rfl rfl ?_
            refine Plan.callF [] 0 rfl rfl rfl (.inl rfl) (by simp) (fun w hm => Valid_ct (some ⟨b11, 0, none⟩) tri 3 3 w (Res.own_rd enc2 (hm.res (ownV (some b11) 3 tri) (by simp))) rfl (by decide)) ?_   -- tinplate/convex.Valid
            rintro v Ln ⟨rfl, rfl⟩
            refine Plan.splitB (fun h49 => ?_) (fun h49 => ?_)
            · skip
              refine Plan.pick (v := .bool _) rfl rfl rfl rfl ?_
              refine Plan.assign (v := .bool _) rfl rfl rfl ?_
              refine Plan.done ?_
              exact HW.ret ⟨rfl, _, [], .tmp rfl .nil, List.nil_sublist _, rfl, rfl⟩
            · skip
              exact absurd h49 (by rw [valid_tri]; decide)
          · replace h45 := of_decide_eq_false h45
            exact absurd rfl h45
        · replace h41 := of_decide_eq_false h41
          exact absurd rfl h41
      · replace h36 := of_decide_eq_false h36
        exact absurd rfl h36
    · replace h32 := of_decide_eq_false h32
      exact absurd rfl h32
  · replace h29 := of_decide_eq_false h29
    exact absurd rfl h29

end Go.Proofs.Ytoghphikfkdkmaa.V
