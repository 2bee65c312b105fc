/-
  The law ConvexMotions, by what is true of polygons.
-/
import Derived.Test.YtoghphikfkdkmaaV19
namespace Go.Proofs.Ytoghphikfkdkmaa.V
open Go Go.RowKit Go.Proofs.Ytoghphikfkdkmaa.H
set_option linter.unusedVariables false
set_option linter.unusedSimpArgs false

theorem MoveF_len (p : List Pt) (v : Pt) : (MoveF p v).1.length ≤ 2 * p.length := by
  have := hullF_len (p.map (vAdd v))
  rw [List.length_map] at this
  unfold MoveF
  split
  · unfold madeL; split
    · exact this
    · simp
  · simp

theorem FlipF_len (p : List Pt) : (FlipF p).1.length ≤ 2 * p.length := by
  have := hullF_len (p.map vNeg)
  rw [List.length_map] at this
  unfold FlipF
  split
  · exact this
  · simp

set_option maxRecDepth 10000 in
set_option maxHeartbeats 1000000 in
theorem motions_ct (hM1 : ∀ (p q : List Pt) (v : Pt), (MoveF p v).2 = 0 → (MoveF q v).2 = 0 → AlikeM p q (MoveF p v).1 (MoveF q v).1) (hM2 : ∀ p q : List Pt, (FlipF p).2 = 0 → (FlipF q).2 = 0 → AlikeM p q (FlipF p).1 (FlipF q).1)
    (A1 A2 : Option Addr) (p q : List Pt) (v : Pt) (n1 c1 n2 c2 : Nat) (w : World) (hp : Rd enc 2 w A1 p) (hq : Rd enc 2 w A2 q) (hn1 : n1 = p.length) (hn2 : n2 = q.length) :
    Ct P 7 #[.slice A1 n1 c1, .slice A2 n2 c2, vc v] w [] (fun v L => v = .bool true ∧ L = []) := by
  subst hn1 hn2
  have f1 := MoveF_len p v
  have f2 := MoveF_len q v
  have f3 := FlipF_len p
  have f4 := FlipF_len q
  refine Ct.of_body (rs := [.tmp 6]) (N := 74) (L := []) Try.func7 rfl rfl rfl (by kernel_rfl) rfl (Mem.refl w) ?_
  refine HW.seq (HW.region [(0, .ef), (1, .st)] rfl rfl ?_)
  refine Plan.boxA rfl rfl rfl fun b5 => ?_
  refine Plan.assign (v := .bool _) rfl rfl rfl ?_
  refine Plan.done ?_
  refine HW.seq ?_
  refine HW.seq (HW.region [(0, .st), (1, .ef), (2, .st), (3, .st), (4, .st), (5, .ef), (6, .st), (7, .st)] rfl rfl ?_)
  refine Plan.move (v := .slice _ _ _) rfl rfl rfl ?_
  refine Plan.callF [] 0 rfl rfl rfl (.inl rfl) (by simp) (fun w hm => few_ct A1 p _ c1 w rfl) ?_   -- tinplate/tinplatelaw03.few
  rintro v Ln ⟨rfl, rfl⟩
  refine Plan.splitB (fun h14 => ?_) (fun h14 => ?_)
  · skip
    refine Plan.not rfl rfl rfl ?_
    refine Plan.move (v := .bool _) rfl rfl rfl ?_
    refine Plan.move (v := .slice _ _ _) rfl rfl rfl ?_
    refine Plan.callF [] 0 rfl rfl rfl (.inl rfl) (by simp) (fun w hm => few_ct A2 q _ c2 w rfl) ?_   -- tinplate/tinplatelaw03.few
    rintro v Ln ⟨rfl, rfl⟩
    refine Plan.splitB (fun h18 => ?_) (fun h18 => ?_)
    · skip
      have l1 := of_decide_eq_true h14
      have l2 := of_decide_eq_true h18
      refine Plan.not rfl rfl rfl ?_
      refine Plan.pick (v := .bool _) rfl rfl rfl rfl ?_
      refine Plan.done ?_
      refine HW.cond_false rfl ?_
      refine HW.skip ?_
      refine HW.seq (HW.region [(0, .st), (1, .st), (2, .ef), (3, .st), (4, .st), (5, .st), (6, .st), (7, .st)] rfl rfl ?_)
      refine Plan.move (v := .slice _ _ _) rfl rfl rfl ?_
      refine Plan.loadAll 0 rfl rfl aggV sizV rfl rfl rfl ?_
      refine Plan.callF [] 0 rfl rfl rfl (.inl rfl) (by simp) (fun w hm => Move_ct A1 p v _ c1 w (hp.mem hm) rfl (by omega)) ?_   -- tinplate/convex.Move
      rintro v Ln ⟨o1, d1, rfl, rfl⟩
      refine Plan.move (v := .tuple _) rfl rfl rfl ?_
      refine Plan.extract (v := .slice _ _ _) rfl rfl rfl rfl ?_
      refine Plan.extract (v := .int _ _) rfl rfl rfl rfl ?_
      refine Plan.assign (v := .slice _ _ _) rfl rfl rfl ?_
      refine Plan.assign (v := .int _ _) rfl rfl rfl ?_
      refine Plan.done ?_
      refine HW.seq (HW.region [(0, .st), (1, .st), (2, .ef), (3, .st), (4, .st), (5, .st), (6, .st), (7, .st)] rfl rfl ?_)
      refine Plan.move (v := .slice _ _ _) rfl rfl rfl ?_
      refine Plan.loadAll 1 rfl rfl aggV sizV rfl rfl rfl ?_
      refine Plan.callF [] 0 rfl rfl rfl (.inl rfl) (by simp) (fun w hm => Move_ct A2 q v _ c2 w (hq.mem hm) rfl (by omega)) ?_   -- tinplate/convex.Move
      rintro v Ln ⟨o2, d2, rfl, rfl⟩
      refine Plan.move (v := .tuple _) rfl rfl rfl ?_
      refine Plan.extract (v := .slice _ _ _) rfl rfl rfl rfl ?_
      refine Plan.extract (v := .int _ _) rfl rfl rfl rfl ?_
      refine Plan.assign (v := .slice _ _ _) rfl rfl rfl ?_
      refine Plan.assign (v := .int _ _) rfl rfl rfl ?_
      refine Plan.done ?_
      refine HW.seq ?_
      refine HW.seq (HW.region [(0, .st), (1, .st), (2, .st), (3, .st), (4, .st), (5, .st), (6, .st), (7, .st), (8, .st), (9, .st), (10, .st), (11, .ef), (12, .st), (13, .st)] rfl rfl ?_)
      refine Plan.move (v := .int _ _) rfl rfl rfl ?_
      refine Plan.cmp2 rfl rfl rfl rfl rfl (fun h35 => ?_) (fun h35 => ?_)
      · replace h35 := of_decide_eq_true h35
        refine Plan.move (v := .bool _) rfl rfl rfl ?_
        refine Plan.move (v := .int _ _) rfl rfl rfl ?_
        refine Plan.cmp2 rfl rfl rfl rfl rfl (fun h38 => ?_) (fun h38 => ?_)
        · replace h38 := of_decide_eq_true h38
          refine Plan.pick (v := .bool _) rfl rfl rfl rfl ?_
          refine Plan.move (v := .bool _) rfl rfl rfl ?_
          refine Plan.move (v := .slice _ _ _) rfl rfl rfl ?_
          refine Plan.move (v := .slice _ _ _) rfl rfl rfl ?_
          refine Plan.move (v := .slice _ _ _) rfl rfl rfl ?_
          refine Plan.move (v := .slice _ _ _) rfl rfl rfl ?_
          refine Plan.callF [] 0 rfl rfl rfl (.inl rfl) (by simp) (fun w hm => alike_ct A1 A2 (at0 o1) (at0 o2) p q (MoveF p v).1 (MoveF q v).1 _ c1 _ c2 _ d1 _ d2 (hM1 p q v h35 h38) w (hp.mem hm) (hq.mem hm) (Res.own_rd enc2 (hm.res (ownV o1 d1 (MoveF p v).1) (by simp))) (Res.own_rd enc2 (hm.res (ownV o2 d2 (MoveF q v).1) (by simp))) rfl rfl rfl rfl (by omega) (by omega) (by omega) (by omega)) ?_   -- tinplate/tinplatelaw03.alike
          rintro v Ln ⟨rfl, rfl⟩
          refine Plan.splitB (fun h45 => ?_) (fun h45 => ?_)
          · skip
            refine Plan.not rfl rfl rfl ?_
            refine Plan.pick (v := .bool _) rfl rfl rfl rfl ?_
            refine Plan.done ?_
            refine HW.cond_false rfl ?_
            refine HW.skip ?_
            refine HW.seq (HW.region [(0, .st), (1, .ef), (2, .st), (3, .st), (4, .st), (5, .st), (6, .st)] rfl rfl ?_)
            refine Plan.move (v := .slice _ _ _) rfl rfl rfl ?_
            refine Plan.callF [] 0 rfl rfl rfl (.inl rfl) (by simp) (fun w hm => Flip_ct A1 p _ c1 w (hp.mem hm) rfl (by omega)) ?_   -- tinplate/convex.Flip
            rintro v Ln ⟨o3, d3, rfl, rfl⟩
            refine Plan.move (v := .tuple _) rfl rfl rfl ?_
            refine Plan.extract (v := .slice _ _ _) rfl rfl rfl rfl ?_
            refine Plan.extract (v := .int _ _) rfl rfl rfl rfl ?_
            refine Plan.assign (v := .slice _ _ _) rfl rfl rfl ?_
            refine Plan.assign (v := .int _ _) rfl rfl rfl ?_
            refine Plan.done ?_
            refine HW.seq (HW.region [(0, .st), (1, .ef), (2, .st), (3, .st), (4, .st), (5, .st), (6, .st)] rfl rfl ?_)
            refine Plan.move (v := .slice _ _ _) rfl rfl rfl ?_
            refine Plan.callF [] 0 rfl rfl rfl (.inl rfl) (by simp) (fun w hm => Flip_ct A2 q _ c2 w (hq.mem hm) rfl (by omega)) ?_   -- tinplate/convex.Flip
            rintro v Ln ⟨o4, d4, rfl, rfl⟩
            refine Plan.move (v := .tuple _) rfl rfl rfl ?_
            refine Plan.extract (v := .slice _ _ _) rfl rfl rfl rfl ?_
            refine Plan.extract (v := .int _ _) rfl rfl rfl rfl ?_
            refine Plan.assign (v := .slice _ _ _) rfl rfl rfl ?_
            refine Plan.assign (v := .int _ _) rfl rfl rfl ?_
            refine Plan.done ?_
            refine HW.seq (HW.region [(0, .st), (1, .st), (2, .st), (3, .st), (4, .st), (5, .st), (6, .st), (7, .st), (8, .st), (9, .st), (10, .st), (11, .ef), (12, .st), (13, .st), (14, .ef), (15, .st), (16, .st)] rfl rfl ?_)
            refine Plan.move (v := .int _ _) rfl rfl rfl ?_
            refine Plan.cmp2 rfl rfl rfl rfl rfl (fun h59 => ?_) (fun h59 => ?_)
            · replace h59 := ne_of_t h59
              refine Plan.move (v := .bool _) rfl rfl rfl ?_
              refine Plan.no rfl rfl ?_
              refine Plan.no rfl rfl ?_
              refine Plan.pick (v := .bool _) rfl rfl rfl rfl ?_
              refine Plan.move (v := .bool _) rfl rfl rfl ?_
              refine Plan.no rfl rfl ?_
              refine Plan.no rfl rfl ?_
              refine Plan.no rfl rfl ?_
              refine Plan.no rfl rfl ?_
              refine Plan.noE rfl rfl ?_
              refine Plan.pick (v := .bool _) rfl rfl rfl rfl ?_
              refine Plan.move (v := .bool _) rfl rfl rfl ?_
              refine Plan.callF [] 0 rfl rfl rfl (.inl rfl) (by simp) (fun w hm => alive_ct w) ?_   -- tinplate/tinplatelaw03.alive
              rintro v Ln ⟨rfl, rfl⟩
              refine Plan.splitB (fun h72 => ?_) (fun h72 => ?_)
              · skip
                refine Plan.pick (v := .bool _) rfl rfl rfl rfl ?_
                refine Plan.assign (v := .bool _) rfl rfl rfl ?_
                refine Plan.done ?_
                exact HW.ret ⟨rfl, _, [], .tmp rfl .nil, List.nil_sublist _, rfl, rfl⟩
              · skip
                cases h72
            · replace h59 := eq_of_f h59
              refine Plan.move (v := .bool _) rfl rfl rfl ?_
              refine Plan.move (v := .int _ _) rfl rfl rfl ?_
              refine Plan.cmp2 rfl rfl rfl rfl rfl (fun h62 => ?_) (fun h62 => ?_)
              · replace h62 := ne_of_t h62
                refine Plan.pick (v := .bool _) rfl rfl rfl rfl ?_
                refine Plan.move (v := .bool _) rfl rfl rfl ?_
                refine Plan.no rfl rfl ?_
                refine Plan.no rfl rfl ?_
                refine Plan.no rfl rfl ?_
                refine Plan.no rfl rfl ?_
                refine Plan.noE rfl rfl ?_
                refine Plan.pick (v := .bool _) rfl rfl rfl rfl ?_
                refine Plan.move (v := .bool _) rfl rfl rfl ?_
                refine Plan.callF [] 0 rfl rfl rfl (.inl rfl) (by simp) (fun w hm => alive_ct w) ?_   -- tinplate/tinplatelaw03.alive
                rintro v Ln ⟨rfl, rfl⟩
                refine Plan.splitB (fun h72 => ?_) (fun h72 => ?_)
                · skip
                  refine Plan.pick (v := .bool _) rfl rfl rfl rfl ?_
                  refine Plan.assign (v := .bool _) rfl rfl rfl ?_
                  refine Plan.done ?_
                  exact HW.ret ⟨rfl, _, [], .tmp rfl .nil, List.nil_sublist _, rfl, rfl⟩
                · skip
                  cases h72
              · replace h62 := eq_of_f h62
                refine Plan.pick (v := .bool _) rfl rfl rfl rfl ?_
                refine Plan.move (v := .bool _) rfl rfl rfl ?_
                refine Plan.move (v := .slice _ _ _) rfl rfl rfl ?_
                refine Plan.move (v := .slice _ _ _) rfl rfl rfl ?_
                refine Plan.move (v := .slice _ _ _) rfl rfl rfl ?_
                refine Plan.move (v := .slice _ _ _) rfl rfl rfl ?_
                refine Plan.callF [] 0 rfl rfl rfl (.inl rfl) (by simp) (fun w hm => alike_ct A1 A2 (at0 o3) (at0 o4) p q (FlipF p).1 (FlipF q).1 _ c1 _ c2 _ d3 _ d4 (hM2 p q h59 h62) w (hp.mem hm) (hq.mem hm) (Res.own_rd enc2 (hm.res (ownV o3 d3 (FlipF p).1) (by simp))) (Res.own_rd enc2 (hm.res (ownV o4 d4 (FlipF q).1) (by simp))) rfl rfl rfl rfl (by omega) (by omega) (by omega) (by omega)) ?_   -- tinplate/tinplatelaw03.alike
                rintro v Ln ⟨rfl, rfl⟩
                refine Plan.splitB (fun h69 => ?_) (fun h69 => ?_)
                · skip
                  refine Plan.pick (v := .bool _) rfl rfl rfl rfl ?_
                  refine Plan.move (v := .bool _) rfl rfl rfl ?_
                  refine Plan.callF [] 0 rfl rfl rfl (.inl rfl) (by simp) (fun w hm => alive_ct w) ?_   -- tinplate/tinplatelaw03.alive
                  rintro v Ln ⟨rfl, rfl⟩
                  refine Plan.splitB (fun h72 => ?_) (fun h72 => ?_)
                  · skip
                    refine Plan.pick (v := .bool _) rfl rfl rfl rfl ?_
                    refine Plan.assign (v := .bool _) rfl rfl rfl ?_
                    refine Plan.done ?_
                    exact HW.ret ⟨rfl, _, [], .tmp rfl .nil, List.nil_sublist _, rfl, rfl⟩
                  · skip
                    cases h72
                · skip
                  cases h69
          · skip
            cases h45
        · replace h38 := of_decide_eq_false h38
          refine Plan.pick (v := .bool _) rfl rfl rfl rfl ?_
          refine Plan.move (v := .bool _) rfl rfl rfl ?_
          refine Plan.no rfl rfl ?_
          refine Plan.no rfl rfl ?_
          refine Plan.no rfl rfl ?_
          refine Plan.no rfl rfl ?_
          refine Plan.noE rfl rfl ?_
          refine Plan.no rfl rfl ?_
          refine Plan.pick (v := .bool _) rfl rfl rfl rfl ?_
          refine Plan.done ?_
          refine HW.cond_false rfl ?_
          refine HW.skip ?_
          refine HW.seq (HW.region [(0, .st), (1, .ef), (2, .st), (3, .st), (4, .st), (5, .st), (6, .st)] rfl rfl ?_)
          refine Plan.move (v := .slice _ _ _) rfl rfl rfl ?_
          refine Plan.callF [] 0 rfl rfl rfl (.inl rfl) (by simp) (fun w hm => Flip_ct A1 p _ c1 w (hp.mem hm) rfl (by omega)) ?_   -- tinplate/convex.Flip
          rintro v Ln ⟨o3, d3, rfl, rfl⟩
          refine Plan.move (v := .tuple _) rfl rfl rfl ?_
          refine Plan.extract (v := .slice _ _ _) rfl rfl rfl rfl ?_
          refine Plan.extract (v := .int _ _) rfl rfl rfl rfl ?_
          refine Plan.assign (v := .slice _ _ _) rfl rfl rfl ?_
          refine Plan.assign (v := .int _ _) rfl rfl rfl ?_
          refine Plan.done ?_
          refine HW.seq (HW.region [(0, .st), (1, .ef), (2, .st), (3, .st), (4, .st), (5, .st), (6, .st)] rfl rfl ?_)
          refine Plan.move (v := .slice _ _ _) rfl rfl rfl ?_
          refine Plan.callF [] 0 rfl rfl rfl (.inl rfl) (by simp) (fun w hm => Flip_ct A2 q _ c2 w (hq.mem hm) rfl (by omega)) ?_   -- tinplate/convex.Flip
          rintro v Ln ⟨o4, d4, rfl, rfl⟩
          refine Plan.move (v := .tuple _) rfl rfl rfl ?_
          refine Plan.extract (v := .slice _ _ _) rfl rfl rfl rfl ?_
          refine Plan.extract (v := .int _ _) rfl rfl rfl rfl ?_
          refine Plan.assign (v := .slice _ _ _) rfl rfl rfl ?_
          refine Plan.assign (v := .int _ _) rfl rfl rfl ?_
          refine Plan.done ?_
          refine HW.seq (HW.region [(0, .st), (1, .st), (2, .st), (3, .st), (4, .st), (5, .st), (6, .st), (7, .st), (8, .st), (9, .st), (10, .st), (11, .ef), (12, .st), (13, .st), (14, .ef), (15, .st), (16, .st)] rfl rfl ?_)
          refine Plan.move (v := .int _ _) rfl rfl rfl ?_
          refine Plan.cmp2 rfl rfl rfl rfl rfl (fun h59 => ?_) (fun h59 => ?_)
          · replace h59 := ne_of_t h59
            refine Plan.move (v := .bool _) rfl rfl rfl ?_
            refine Plan.no rfl rfl ?_
            refine Plan.no rfl rfl ?_
            refine Plan.pick (v := .bool _) rfl rfl rfl rfl ?_
            refine Plan.move (v := .bool _) rfl rfl rfl ?_
            refine Plan.no rfl rfl ?_
            refine Plan.no rfl rfl ?_
            refine Plan.no rfl rfl ?_
            refine Plan.no rfl rfl ?_
            refine Plan.noE rfl rfl ?_
            refine Plan.pick (v := .bool _) rfl rfl rfl rfl ?_
            refine Plan.move (v := .bool _) rfl rfl rfl ?_
            refine Plan.callF [] 0 rfl rfl rfl (.inl rfl) (by simp) (fun w hm => alive_ct w) ?_   -- tinplate/tinplatelaw03.alive
            rintro v Ln ⟨rfl, rfl⟩
            refine Plan.splitB (fun h72 => ?_) (fun h72 => ?_)
            · skip
              refine Plan.pick (v := .bool _) rfl rfl rfl rfl ?_
              refine Plan.assign (v := .bool _) rfl rfl rfl ?_
              refine Plan.done ?_
              exact HW.ret ⟨rfl, _, [], .tmp rfl .nil, List.nil_sublist _, rfl, rfl⟩
            · skip
              cases h72
          · replace h59 := eq_of_f h59
            refine Plan.move (v := .bool _) rfl rfl rfl ?_
            refine Plan.move (v := .int _ _) rfl rfl rfl ?_
            refine Plan.cmp2 rfl rfl rfl rfl rfl (fun h62 => ?_) (fun h62 => ?_)
            · replace h62 := ne_of_t h62
              refine Plan.pick (v := .bool _) rfl rfl rfl rfl ?_
              refine Plan.move (v := .bool _) rfl rfl rfl ?_
              refine Plan.no rfl rfl ?_
              refine Plan.no rfl rfl ?_
              refine Plan.no rfl rfl ?_
              refine Plan.no rfl rfl ?_
              refine Plan.noE rfl rfl ?_
              refine Plan.pick (v := .bool _) rfl rfl rfl rfl ?_
              refine Plan.move (v := .bool _) rfl rfl rfl ?_
              refine Plan.callF [] 0 rfl rfl rfl (.inl rfl) (by simp) (fun w hm => alive_ct w) ?_   -- tinplate/tinplatelaw03.alive
              rintro v Ln ⟨rfl, rfl⟩
              refine Plan.splitB (fun h72 => ?_) (fun h72 => ?_)
              · skip
                refine Plan.pick (v := .bool _) rfl rfl rfl rfl ?_
                refine Plan.assign (v := .bool _) rfl rfl rfl ?_
                refine Plan.done ?_
                exact HW.ret ⟨rfl, _, [], .tmp rfl .nil, List.nil_sublist _, rfl, rfl⟩
              · skip
                cases h72
            · replace h62 := eq_of_f h62
              refine Plan.pick (v := .bool _) rfl rfl rfl rfl ?_
              refine Plan.move (v := .bool _) rfl rfl rfl ?_
              refine Plan.move (v := .slice _ _ _) rfl rfl rfl ?_
              refine Plan.move (v := .slice _ _ _) rfl rfl rfl ?_
              refine Plan.move (v := .slice _ _ _) rfl rfl rfl ?_
              refine Plan.move (v := .slice _ _ _) rfl rfl rfl ?_
              refine Plan.callF [] 0 rfl rfl rfl (.inl rfl) (by simp) (fun w hm => alike_ct A1 A2 (at0 o3) (at0 o4) p q (FlipF p).1 (FlipF q).1 _ c1 _ c2 _ d3 _ d4 (hM2 p q h59 h62) w (hp.mem hm) (hq.mem hm) (Res.own_rd enc2 (hm.res (ownV o3 d3 (FlipF p).1) (by simp))) (Res.own_rd enc2 (hm.res (ownV o4 d4 (FlipF q).1) (by simp))) rfl rfl rfl rfl (by omega) (by omega) (by omega) (by omega)) ?_   -- tinplate/tinplatelaw03.alike
              rintro v Ln ⟨rfl, rfl⟩
              refine Plan.splitB (fun h69 => ?_) (fun h69 => ?_)
              · skip
                refine Plan.pick (v := .bool _) rfl rfl rfl rfl ?_
                refine Plan.move (v := .bool _) rfl rfl rfl ?_
                refine Plan.callF [] 0 rfl rfl rfl (.inl rfl) (by simp) (fun w hm => alive_ct w) ?_   -- tinplate/tinplatelaw03.alive
                rintro v Ln ⟨rfl, rfl⟩
                refine Plan.splitB (fun h72 => ?_) (fun h72 => ?_)
                · skip
                  refine Plan.pick (v := .bool _) rfl rfl rfl rfl ?_
                  refine Plan.assign (v := .bool _) rfl rfl rfl ?_
                  refine Plan.done ?_
                  exact HW.ret ⟨rfl, _, [], .tmp rfl .nil, List.nil_sublist _, rfl, rfl⟩
                · skip
                  cases h72
              · skip
                cases h69
      · replace h35 := of_decide_eq_false h35
        refine Plan.move (v := .bool _) rfl rfl rfl ?_
        refine Plan.no rfl rfl ?_
        refine Plan.no rfl rfl ?_
        refine Plan.pick (v := .bool _) rfl rfl rfl rfl ?_
        refine Plan.move (v := .bool _) rfl rfl rfl ?_
        refine Plan.no rfl rfl ?_
        refine Plan.no rfl rfl ?_
        refine Plan.no rfl rfl ?_
        refine Plan.no rfl rfl ?_
        refine Plan.noE rfl rfl ?_
        refine Plan.no rfl rfl ?_
        refine Plan.pick (v := .bool _) rfl rfl rfl rfl ?_
        refine Plan.done ?_
        refine HW.cond_false rfl ?_
        refine HW.skip ?_
        refine HW.seq (HW.region [(0, .st), (1, .ef), (2, .st), (3, .st), (4, .st), (5, .st), (6, .st)] rfl rfl ?_)
        refine Plan.move (v := .slice _ _ _) rfl rfl rfl ?_
        refine Plan.callF [] 0 rfl rfl rfl (.inl rfl) (by simp) (fun w hm => Flip_ct A1 p _ c1 w (hp.mem hm) rfl (by omega)) ?_   -- tinplate/convex.Flip
        rintro v Ln ⟨o3, d3, rfl, rfl⟩
        refine Plan.move (v := .tuple _) rfl rfl rfl ?_
        refine Plan.extract (v := .slice _ _ _) rfl rfl rfl rfl ?_
        refine Plan.extract (v := .int _ _) rfl rfl rfl rfl ?_
        refine Plan.assign (v := .slice _ _ _) rfl rfl rfl ?_
        refine Plan.assign (v := .int _ _) rfl rfl rfl ?_
        refine Plan.done ?_
        refine HW.seq (HW.region [(0, .st), (1, .ef), (2, .st), (3, .st), (4, .st), (5, .st), (6, .st)] rfl rfl ?_)
        refine Plan.move (v := .slice _ _ _) rfl rfl rfl ?_
        refine Plan.callF [] 0 rfl rfl rfl (.inl rfl) (by simp) (fun w hm => Flip_ct A2 q _ c2 w (hq.mem hm) rfl (by omega)) ?_   -- tinplate/convex.Flip
        rintro v Ln ⟨o4, d4, rfl, rfl⟩
        refine Plan.move (v := .tuple _) rfl rfl rfl ?_
        refine Plan.extract (v := .slice _ _ _) rfl rfl rfl rfl ?_
        refine Plan.extract (v := .int _ _) rfl rfl rfl rfl ?_
        refine Plan.assign (v := .slice _ _ _) rfl rfl rfl ?_
        refine Plan.assign (v := .int _ _) rfl rfl rfl ?_
        refine Plan.done ?_
        refine HW.seq (HW.region [(0, .st), (1, .st), (2, .st), (3, .st), (4, .st), (5, .st), (6, .st), (7, .st), (8, .st), (9, .st), (10, .st), (11, .ef), (12, .st), (13, .st), (14, .ef), (15, .st), (16, .st)] rfl rfl ?_)
        refine Plan.move (v := .int _ _) rfl rfl rfl ?_
        refine Plan.cmp2 rfl rfl rfl rfl rfl (fun h59 => ?_) (fun h59 => ?_)
        · replace h59 := ne_of_t h59
          refine Plan.move (v := .bool _) rfl rfl rfl ?_
          refine Plan.no rfl rfl ?_
          refine Plan.no rfl rfl ?_
          refine Plan.pick (v := .bool _) rfl rfl rfl rfl ?_
          refine Plan.move (v := .bool _) rfl rfl rfl ?_
          refine Plan.no rfl rfl ?_
          refine Plan.no rfl rfl ?_
          refine Plan.no rfl rfl ?_
          refine Plan.no rfl rfl ?_
          refine Plan.noE rfl rfl ?_
          refine Plan.pick (v := .bool _) rfl rfl rfl rfl ?_
          refine Plan.move (v := .bool _) rfl rfl rfl ?_
          refine Plan.callF [] 0 rfl rfl rfl (.inl rfl) (by simp) (fun w hm => alive_ct w) ?_   -- tinplate/tinplatelaw03.alive
          rintro v Ln ⟨rfl, rfl⟩
          refine Plan.splitB (fun h72 => ?_) (fun h72 => ?_)
          · skip
            refine Plan.pick (v := .bool _) rfl rfl rfl rfl ?_
            refine Plan.assign (v := .bool _) rfl rfl rfl ?_
            refine Plan.done ?_
            exact HW.ret ⟨rfl, _, [], .tmp rfl .nil, List.nil_sublist _, rfl, rfl⟩
          · skip
            cases h72
        · replace h59 := eq_of_f h59
          refine Plan.move (v := .bool _) rfl rfl rfl ?_
          refine Plan.move (v := .int _ _) rfl rfl rfl ?_
          refine Plan.cmp2 rfl rfl rfl rfl rfl (fun h62 => ?_) (fun h62 => ?_)
          · replace h62 := ne_of_t h62
            refine Plan.pick (v := .bool _) rfl rfl rfl rfl ?_
            refine Plan.move (v := .bool _) rfl rfl rfl ?_
            refine Plan.no rfl rfl ?_
            refine Plan.no rfl rfl ?_
            refine Plan.no rfl rfl ?_
            refine Plan.no rfl rfl ?_
            refine Plan.noE rfl rfl ?_
            refine Plan.pick (v := .bool _) rfl rfl rfl rfl ?_
            refine Plan.move (v := .bool _) rfl rfl rfl ?_
            refine Plan.callF [] 0 rfl rfl rfl (.inl rfl) (by simp) (fun w hm => alive_ct w) ?_   -- tinplate/tinplatelaw03.alive
            rintro v Ln ⟨rfl, rfl⟩
            refine Plan.splitB (fun h72 => ?_) (fun h72 => ?_)
            · skip
              refine Plan.pick (v := .bool _) rfl rfl rfl rfl ?_
              refine Plan.assign (v := .bool _) rfl rfl rfl ?_
              refine Plan.done ?_
              exact HW.ret ⟨rfl, _, [], .tmp rfl .nil, List.nil_sublist _, rfl, rfl⟩
            · skip
              cases h72
          · replace h62 := eq_of_f h62
            refine Plan.pick (v := .bool _) rfl rfl rfl rfl ?_
            refine Plan.move (v := .bool _) rfl rfl rfl ?_
            refine Plan.move (v := .slice _ _ _) rfl rfl rfl ?_
            refine Plan.move (v := .slice _ _ _) rfl rfl rfl ?_
            refine Plan.move (v := .slice _ _ _) rfl rfl rfl ?_
            refine Plan.move (v := .slice _ _ _) rfl rfl rfl ?_
            refine Plan.callF [] 0 rfl rfl rfl (.inl rfl) (by simp) (fun w hm => alike_ct A1 A2 (at0 o3) (at0 o4) p q (FlipF p).1 (FlipF q).1 _ c1 _ c2 _ d3 _ d4 (hM2 p q h59 h62) w (hp.mem hm) (hq.mem hm) (Res.own_rd enc2 (hm.res (ownV o3 d3 (FlipF p).1) (by simp))) (Res.own_rd enc2 (hm.res (ownV o4 d4 (FlipF q).1) (by simp))) rfl rfl rfl rfl (by omega) (by omega) (by omega) (by omega)) ?_   -- tinplate/tinplatelaw03.alike
            rintro v Ln ⟨rfl, rfl⟩
            refine Plan.splitB (fun h69 => ?_) (fun h69 => ?_)
            · skip
              refine Plan.pick (v := .bool _) rfl rfl rfl rfl ?_
              refine Plan.move (v := .bool _) rfl rfl rfl ?_
              refine Plan.callF [] 0 rfl rfl rfl (.inl rfl) (by simp) (fun w hm => alive_ct w) ?_   -- tinplate/tinplatelaw03.alive
              rintro v Ln ⟨rfl, rfl⟩
              refine Plan.splitB (fun h72 => ?_) (fun h72 => ?_)
              · skip
                refine Plan.pick (v := .bool _) rfl rfl rfl rfl ?_
                refine Plan.assign (v := .bool _) rfl rfl rfl ?_
                refine Plan.done ?_
                exact HW.ret ⟨rfl, _, [], .tmp rfl .nil, List.nil_sublist _, rfl, rfl⟩
              · skip
                cases h72
            · skip
              cases h69
    · skip
      refine Plan.not rfl rfl rfl ?_
      refine Plan.pick (v := .bool _) rfl rfl rfl rfl ?_
      refine Plan.done ?_
      refine HW.cond_true rfl ?_
      refine HW.seq (HW.region [(0, .ef), (1, .st)] rfl rfl ?_)
      refine Plan.callF [] 0 rfl rfl rfl (.inl rfl) (by simp) (fun w hm => alive_ct w) ?_   -- tinplate/tinplatelaw03.alive
      rintro v Ln ⟨rfl, rfl⟩
      refine Plan.splitB (fun h21 => ?_) (fun h21 => ?_)
      · skip
        refine Plan.assign (v := .bool _) rfl rfl rfl ?_
        refine Plan.done ?_
        exact HW.ret ⟨rfl, _, [], .tmp rfl .nil, List.nil_sublist _, rfl, rfl⟩
      · skip
        cases h21
  · skip
    refine Plan.not rfl rfl rfl ?_
    refine Plan.move (v := .bool _) rfl rfl rfl ?_
    refine Plan.no rfl rfl ?_
    refine Plan.noE rfl rfl ?_
    refine Plan.no rfl rfl ?_
    refine Plan.pick (v := .bool _) rfl rfl rfl rfl ?_
    refine Plan.done ?_
    refine HW.cond_true rfl ?_
    refine HW.seq (HW.region [(0, .ef), (1, .st)] rfl rfl ?_)
    refine Plan.callF [] 0 rfl rfl rfl (.inl rfl) (by simp) (fun w hm => alive_ct w) ?_   -- tinplate/tinplatelaw03.alive
    rintro v Ln ⟨rfl, rfl⟩
    refine Plan.splitB (fun h21 => ?_) (fun h21 => ?_)
    · skip
      refine Plan.assign (v := .bool _) rfl rfl rfl ?_
      refine Plan.done ?_
      exact HW.ret ⟨rfl, _, [], .tmp rfl .nil, List.nil_sublist _, rfl, rfl⟩
    · skip
      cases h21

end Go.Proofs.Ytoghphikfkdkmaa.V
