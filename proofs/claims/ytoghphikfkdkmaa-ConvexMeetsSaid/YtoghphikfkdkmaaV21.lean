/-
  The law ConvexSeparates.
-/
import Derived.Test.YtoghphikfkdkmaaG8
import Derived.Test.YtoghphikfkdkmaaV17
import Derived.Test.YtoghphikfkdkmaaV19
namespace Go.Proofs.Ytoghphikfkdkmaa.V
open Go Go.RowKit Go.Proofs.Ytoghphikfkdkmaa.H
set_option linter.unusedVariables false
set_option linter.unusedSimpArgs false

theorem Sees.fx {J : Jd} {L : List Res} {a : Addr} {q : Pt} (h : Sees J L a (enc q)) : Sees J L (a.add 0) [int q.1] := fun w hm j u hu => by
  cases j with
  | zero => rw [add_add]; exact h w hm 0 u hu
  | succ j => cases hu
theorem Sees.fy {J : Jd} {L : List Res} {a : Addr} {q : Pt} (h : Sees J L a (enc q)) : Sees J L (a.add 1) [int q.2] := fun w hm j u hu => by
  cases j with
  | zero => rw [add_add]; exact h w hm 1 u hu
  | succ j => cases hu

theorem bld0V (w : World) : (Instr.build 36 #[]).run P w = .ok (vec 0 0) w := by kernel_rfl

theorem sepdir_bd (p q : List Pt) : Bd2 100000 (SeparateF p q).1.1 (SeparateF p q).1.2 := by
  have z : Bd2 100000 ((0, 0) : Pt).1 ((0, 0) : Pt).2 := ⟨⟨by decide, by decide⟩, ⟨by decide, by decide⟩⟩
  unfold SeparateF
  split
  · next h =>
    simp only [Bool.and_eq_true] at h
    obtain ⟨_, _, vp, _⟩ := validF_spec h.1
    obtain ⟨_, _, vq, _⟩ := validF_spec h.2
    split
    · unfold partedF
      cases h1 : firstD (dirP p) (sepB p q) p.length with
      | some d =>
        obtain ⟨k, hk, rfl, hs⟩ := firstD_spec h1
        obtain ⟨⟨_, _⟩, ⟨_, _⟩⟩ := vp _ (nth_mem hk)
        obtain ⟨⟨_, _⟩, ⟨_, _⟩⟩ := vp _ (nx_mem hk)
        unfold dirP
        exact ⟨⟨by simp only; omega, by simp only; omega⟩, ⟨by simp only; omega, by simp only; omega⟩⟩
      | none =>
        cases h2 : firstD (dirQ q) (sepB p q) q.length with
        | some d =>
          obtain ⟨k, hk, rfl, hs⟩ := firstD_spec h2
          obtain ⟨⟨_, _⟩, ⟨_, _⟩⟩ := vq _ (nth_mem hk)
          obtain ⟨⟨_, _⟩, ⟨_, _⟩⟩ := vq _ (nx_mem hk)
          unfold dirQ
          exact ⟨⟨by simp only; omega, by simp only; omega⟩, ⟨by simp only; omega, by simp only; omega⟩⟩
        | none => exact z
    · exact z
  · exact z

theorem ov_sep (p q : List Pt) : (OverlapF p q).2 ≠ 0 → (OverlapF p q).2 = (SeparateF p q).2 := by
  unfold OverlapF SeparateF
  intro h
  split
  · next h1 => rw [if_pos h1] at h; exact absurd rfl h
  · rfl
theorem ov_ok {p q : List Pt} (h : (OverlapF p q).1 = true) : (OverlapF p q).2 = 0 := by
  unfold OverlapF at *
  split
  · rfl
  · next h1 => rw [if_neg h1] at h; cases h
theorem ov_valid {p q : List Pt} (h : (OverlapF p q).2 = 0) : (∀ v ∈ p, Bd2 100000 v.1 v.2) ∧ ∀ v ∈ q, Bd2 100000 v.1 v.2 := by
  unfold OverlapF at h
  split at h
  · next h1 =>
    simp only [Bool.and_eq_true] at h1
    obtain ⟨_, _, vp, _⟩ := validF_spec h1.1
    obtain ⟨_, _, vq, _⟩ := validF_spec h1.2
    exact ⟨fun v hv => (vp v hv).mono (by omega), fun v hv => (vq v hv).mono (by omega)⟩
  · simp at h

theorem SumF_len' (p q : List Pt) : (SumF p q).1.length ≤ p.length + q.length := by
  unfold SumF
  split
  · unfold madeL; split
    · exact sumF_len p q
    · simp
  · simp
theorem FlipF_len' (p : List Pt) : (FlipF p).1.length ≤ 2 * p.length := by
  have := hullF_len (p.map vNeg)
  rw [List.length_map] at this
  unfold FlipF
  split
  · exact this
  · simp

set_option maxRecDepth 10000 in
set_option maxHeartbeats 1000000 in
theorem separates_ctT (A1 A2 : Option Addr) (p q : List Pt) (n1 c1 n2 c2 : Nat) (w : World) (hx : (OverlapF p q).1 = true) (hp : Rd enc 2 w A1 p) (hq : Rd enc 2 w A2 q) (hn1 : n1 = p.length) (hn2 : n2 = q.length) :
    Ct P 6 #[.slice A1 n1 c1, .slice A2 n2 c2] w [] (fun v L => v = .bool true ∧ L = []) := by
  subst hn1 hn2
  have he := ov_ok hx
  obtain ⟨f0, dir, ov, fl, sm, atz⟩ := sep_spec he
  rw [if_pos hx] at f0
  rw [hx] at ov
  have k1 := FlipF_len' q
  have k2 := SumF_len' p (FlipF q).1
  refine Ct.of_body (rs := [.tmp 4]) (N := 167) (L := []) Try.func6 rfl rfl rfl (by kernel_rfl) rfl (Mem.refl w) ?_
  refine HW.seq (HW.region [(0, .st)] rfl rfl ?_)
  refine Plan.assign (v := .bool _) rfl rfl rfl ?_
  refine Plan.done ?_
  refine HW.seq ?_
  refine HW.seq (HW.region [(0, .st), (1, .ef), (2, .st), (3, .st), (4, .st), (5, .ef), (6, .st), (7, .st)] rfl rfl ?_)
  refine Plan.move (v := .slice _ _ _) rfl rfl rfl ?_
  refine Plan.callF [] 0 rfl rfl rfl (.inl rfl) (by simp) (fun w hm => few_ct A1 p _ c1 w rfl) ?_   -- tinplate/tinplatelaw03.few
  rintro v Ln ⟨rfl, rfl⟩
  refine Plan.splitB (fun h19 => ?_) (fun h19 => ?_)
  · skip
    refine Plan.not rfl rfl rfl ?_
    refine Plan.move (v := .bool _) rfl rfl rfl ?_
    refine Plan.move (v := .slice _ _ _) rfl rfl rfl ?_
    refine Plan.callF [] 0 rfl rfl rfl (.inl rfl) (by simp) (fun w hm => few_ct A2 q _ c2 w rfl) ?_   -- tinplate/tinplatelaw03.few
    rintro v Ln ⟨rfl, rfl⟩
    refine Plan.splitB (fun h23 => ?_) (fun h23 => ?_)
    · skip
      have l1 := of_decide_eq_true h19
      have l2 := of_decide_eq_true h23
      refine Plan.not rfl rfl rfl ?_
      refine Plan.pick (v := .bool _) rfl rfl rfl rfl ?_
      refine Plan.done ?_
      refine HW.cond_false rfl ?_
      refine HW.skip ?_
      refine HW.seq (HW.region [(0, .st), (1, .st), (2, .ef), (3, .st), (4, .st), (5, .st), (6, .st), (7, .st)] rfl rfl ?_)
      refine Plan.move (v := .slice _ _ _) rfl rfl rfl ?_
      refine Plan.move (v := .slice _ _ _) rfl rfl rfl ?_
      refine Plan.callF [] 0 rfl rfl rfl (.inl rfl) (by simp) (fun w hm => Overlap_ct A1 A2 p q _ c1 _ c2 w (hp.mem hm) (hq.mem hm) rfl rfl (by omega) (by omega)) ?_   -- tinplate/convex.Overlap
      rintro v Ln ⟨rfl, rfl⟩
      rw [hx]
      refine Plan.move (v := .tuple _) rfl rfl rfl ?_
      refine Plan.extract (v := .bool _) rfl rfl rfl rfl ?_
      refine Plan.extract (v := .int _ _) rfl rfl rfl rfl ?_
      refine Plan.assign (v := .bool _) rfl rfl rfl ?_
      refine Plan.assign (v := .int _ _) rfl rfl rfl ?_
      refine Plan.done ?_
      refine HW.seq (HW.region [(0, .st), (1, .st), (2, .ef), (3, .st), (4, .st), (5, .st), (6, .al), (7, .ef), (8, .st)] rfl rfl ?_)
      refine Plan.move (v := .slice _ _ _) rfl rfl rfl ?_
      refine Plan.move (v := .slice _ _ _) rfl rfl rfl ?_
      refine Plan.callF [] 0 rfl rfl rfl (.inl rfl) (by simp) (fun w hm => Separate_ct A1 A2 p q _ c1 _ c2 w (hp.mem hm) (hq.mem hm) rfl rfl (by omega) (by omega)) ?_   -- tinplate/convex.Separate
      rintro v Ln ⟨rfl, rfl⟩
      refine Plan.move (v := .tuple _) rfl rfl rfl ?_
      refine Plan.extract (v := .agg _) rfl rfl rfl rfl ?_
      refine Plan.extract (v := .int _ _) rfl rfl rfl rfl ?_
      refine Plan.alloc rfl zerV fun b7 => ?_
      refine Plan.storeA 0 rfl rfl hDn sizV rfl rfl rfl rfl rfl rfl ?_
      refine Plan.assign (v := .int _ _) rfl rfl rfl ?_
      refine Plan.done ?_
      refine HW.seq ?_
      refine HW.seq (HW.region [(0, .st), (1, .st)] rfl rfl ?_)
      refine Plan.move (v := .int _ _) rfl rfl rfl ?_
      refine Plan.cmp2 rfl rfl rfl rfl rfl (fun h40 => ?_) (fun h40 => ?_)
      · replace h40 := ne_of_t h40
        omega
      · replace h40 := eq_of_f h40
        refine Plan.done ?_
        refine HW.cond_false rfl ?_
        refine HW.skip ?_
        refine HW.seq ?_
        refine HW.seq (HW.region [(0, .st), (1, .st), (2, .st), (3, .st), (4, .st), (5, .st), (6, .st), (7, .st), (8, .st), (9, .st), (10, .st), (11, .st)] rfl rfl ?_)
        refine Plan.move (v := .bool _) rfl rfl rfl ?_
        refine Plan.move (v := .int _ _) rfl rfl rfl ?_
        refine Plan.cmp2 rfl rfl rfl rfl rfl (fun h49 => ?_) (fun h49 => ?_)
        · replace h49 := of_decide_eq_true h49
          refine Plan.neB rfl rfl undB rfl rfl ?_
          refine Plan.move (v := .bool _) rfl rfl rfl ?_
          refine Plan.move (v := .int _ _) rfl rfl rfl ?_
          refine Plan.cmp2 rfl rfl rfl rfl rfl (fun h53 => ?_) (fun h53 => ?_)
          · replace h53 := ne_of_t h53
            refine Plan.move (v := .bool _) rfl rfl rfl ?_
            refine Plan.move (v := .int _ _) rfl rfl rfl ?_
            refine Plan.cmp2 rfl rfl rfl rfl rfl (fun h56 => ?_) (fun h56 => ?_)
            · replace h56 := ne_of_t h56
              omega
            · replace h56 := eq_of_f h56
              refine Plan.pick (v := .bool _) rfl rfl rfl rfl ?_
              refine Plan.pick (v := .bool _) rfl rfl rfl rfl ?_
              refine Plan.done ?_
              refine HW.cond_false rfl ?_
              refine HW.skip ?_
              refine HW.seq ?_
              refine HW.seq (HW.region [(0, .st), (1, .st)] rfl rfl ?_)
              refine Plan.move (v := .int _ _) rfl rfl rfl ?_
              refine Plan.cmp2 rfl rfl rfl rfl rfl (fun h60 => ?_) (fun h60 => ?_)
              · replace h60 := of_decide_eq_true h60
                omega
              · replace h60 := of_decide_eq_false h60
                refine Plan.done ?_
                refine HW.cond_false rfl ?_
                refine HW.skip ?_
                refine HW.seq (HW.region [(0, .st), (1, .st), (2, .ef), (3, .st), (4, .st), (5, .st), (6, .st), (7, .st)] rfl rfl ?_)
                refine Plan.move (v := .slice _ _ _) rfl rfl rfl ?_
                refine Plan.move (v := .slice _ _ _) rfl rfl rfl ?_
                refine Plan.callF [] 0 rfl rfl rfl (.inl rfl) (by simp) (fun w hm => Overlap_ct A2 A1 q p _ c2 _ c1 w (hq.mem hm) (hp.mem hm) rfl rfl (by omega) (by omega)) ?_   -- tinplate/convex.Overlap
                rintro v Ln ⟨rfl, rfl⟩
                rw [ov]
                refine Plan.move (v := .tuple _) rfl rfl rfl ?_
                refine Plan.extract (v := .bool _) rfl rfl rfl rfl ?_
                refine Plan.extract (v := .int _ _) rfl rfl rfl rfl ?_
                refine Plan.assign (v := .bool _) rfl rfl rfl ?_
                refine Plan.assign (v := .int _ _) rfl rfl rfl ?_
                refine Plan.done ?_
                refine HW.seq (HW.region [(0, .st), (1, .ef), (2, .st), (3, .st), (4, .st), (5, .st), (6, .st)] rfl rfl ?_)
                refine Plan.move (v := .slice _ _ _) rfl rfl rfl ?_
                refine Plan.callF [] 0 rfl rfl rfl (.inl rfl) (by simp) (fun w hm => Flip_ct A2 q _ c2 w (hq.mem hm) rfl (by omega)) ?_   -- tinplate/convex.Flip
                rintro v Ln ⟨o1, d1, rfl, rfl⟩
                refine Plan.move (v := .tuple _) rfl rfl rfl ?_
                refine Plan.extract (v := .slice _ _ _) rfl rfl rfl rfl ?_
                refine Plan.extract (v := .int _ _) rfl rfl rfl rfl ?_
                refine Plan.assign (v := .slice _ _ _) rfl rfl rfl ?_
                refine Plan.assign (v := .int _ _) rfl rfl rfl ?_
                refine Plan.done ?_
                refine HW.seq (HW.region [(0, .st), (1, .st), (2, .ef), (3, .st), (4, .st), (5, .st), (6, .st), (7, .st)] rfl rfl ?_)
                refine Plan.move (v := .slice _ _ _) rfl rfl rfl ?_
                refine Plan.move (v := .slice _ _ _) rfl rfl rfl ?_
                refine Plan.callF [] 0 rfl rfl rfl (.inl rfl) (by simp) (fun w hm => Sum_ct A1 (at0 o1) p (FlipF q).1 _ c1 _ d1 w (hp.mem hm) (Res.own_rd enc2 (hm.res (ownV o1 d1 (FlipF q).1) (by simp))) rfl rfl (by omega) (by omega)) ?_   -- tinplate/convex.Sum
                rintro v Ln ⟨o2, d2, rfl, rfl⟩
                refine Plan.move (v := .tuple _) rfl rfl rfl ?_
                refine Plan.extract (v := .slice _ _ _) rfl rfl rfl rfl ?_
                refine Plan.extract (v := .int _ _) rfl rfl rfl rfl ?_
                refine Plan.assign (v := .slice _ _ _) rfl rfl rfl ?_
                refine Plan.assign (v := .int _ _) rfl rfl rfl ?_
                refine Plan.done ?_
                refine HW.seq ?_
                refine HW.seq (HW.region [(0, .st), (1, .st), (2, .st), (3, .st), (4, .st), (5, .st), (6, .st), (7, .st), (8, .st), (9, .st), (10, .st)] rfl rfl ?_)
                refine Plan.move (v := .int _ _) rfl rfl rfl ?_
                refine Plan.cmp2 rfl rfl rfl rfl rfl (fun h129 => ?_) (fun h129 => ?_)
                · replace h129 := ne_of_t h129
                  exact absurd rfl h129
                · replace h129 := eq_of_f h129
                  refine Plan.move (v := .bool _) rfl rfl rfl ?_
                  refine Plan.move (v := .int _ _) rfl rfl rfl ?_
                  refine Plan.cmp2 rfl rfl rfl rfl rfl (fun h132 => ?_) (fun h132 => ?_)
                  · replace h132 := ne_of_t h132
                    omega
                  · replace h132 := eq_of_f h132
                    refine Plan.pick (v := .bool _) rfl rfl rfl rfl ?_
                    refine Plan.move (v := .bool _) rfl rfl rfl ?_
                    refine Plan.move (v := .bool _) rfl rfl rfl ?_
                    refine Plan.move (v := .bool _) rfl rfl rfl ?_
                    refine Plan.neB rfl rfl undB rfl rfl ?_
                    refine Plan.pick (v := .bool _) rfl rfl rfl rfl ?_
                    refine Plan.done ?_
                    refine HW.cond_false rfl ?_
                    refine HW.skip ?_
                    refine HW.seq ?_
                    refine HW.seq (HW.region [(0, .st), (1, .st)] rfl rfl ?_)
                    refine Plan.move (v := .int _ _) rfl rfl rfl ?_
                    refine Plan.cmp2 rfl rfl rfl rfl rfl (fun h140 => ?_) (fun h140 => ?_)
                    · replace h140 := ne_of_t h140
                      refine Plan.done ?_
                      refine HW.cond_true rfl ?_
                      refine HW.seq (HW.region [(0, .st), (1, .st), (2, .st), (3, .st), (4, .st), (5, .st), (6, .st), (7, .ef), (8, .st), (9, .st)] rfl rfl ?_)
                      refine Plan.move (v := .int _ _) rfl rfl rfl ?_
                      refine Plan.cmp2 rfl rfl rfl rfl rfl (fun h142 => ?_) (fun h142 => ?_)
                      · replace h142 := of_decide_eq_true h142
                        refine Plan.move (v := .bool _) rfl rfl rfl ?_
                        refine Plan.no rfl rfl ?_
                        refine Plan.no rfl rfl ?_
                        refine Plan.pick (v := .bool _) rfl rfl rfl rfl ?_
                        refine Plan.move (v := .bool _) rfl rfl rfl ?_
                        refine Plan.callF [] 0 rfl rfl rfl (.inl rfl) (by simp) (fun w hm => alive_ct w) ?_   -- tinplate/tinplatelaw03.alive
                        rintro v Ln ⟨rfl, rfl⟩
                        refine Plan.splitB (fun h148 => ?_) (fun h148 => ?_)
                        · skip
                          refine Plan.pick (v := .bool _) rfl rfl rfl rfl ?_
                          refine Plan.assign (v := .bool _) rfl rfl rfl ?_
                          refine Plan.done ?_
                          exact HW.ret ⟨rfl, _, [], .tmp rfl .nil, List.nil_sublist _, rfl, rfl⟩
                        · skip
                          cases h148
                      · replace h142 := of_decide_eq_false h142
                        refine Plan.move (v := .bool _) rfl rfl rfl ?_
                        refine Plan.move (v := .int _ _) rfl rfl rfl ?_
                        refine Plan.cmp2 rfl rfl rfl rfl rfl (fun h145 => ?_) (fun h145 => ?_)
                        · replace h145 := of_decide_eq_true h145
                          refine Plan.pick (v := .bool _) rfl rfl rfl rfl ?_
                          refine Plan.move (v := .bool _) rfl rfl rfl ?_
                          refine Plan.callF [] 0 rfl rfl rfl (.inl rfl) (by simp) (fun w hm => alive_ct w) ?_   -- tinplate/tinplatelaw03.alive
                          rintro v Ln ⟨rfl, rfl⟩
                          refine Plan.splitB (fun h148 => ?_) (fun h148 => ?_)
                          · skip
                            refine Plan.pick (v := .bool _) rfl rfl rfl rfl ?_
                            refine Plan.assign (v := .bool _) rfl rfl rfl ?_
                            refine Plan.done ?_
                            exact HW.ret ⟨rfl, _, [], .tmp rfl .nil, List.nil_sublist _, rfl, rfl⟩
                          · skip
                            cases h148
                        · replace h145 := of_decide_eq_false h145
                          omega
                    · replace h140 := eq_of_f h140
                      obtain ⟨z1, z2⟩ := atz h140
                      refine Plan.done ?_
                      refine HW.cond_false rfl ?_
                      refine HW.skip ?_
                      refine HW.seq (HW.region [(0, .st), (1, .st), (2, .ef), (3, .st), (4, .st), (5, .st), (6, .st), (7, .st)] rfl rfl ?_)
                      refine Plan.move (v := .slice _ _ _) rfl rfl rfl ?_
                      refine Plan.build rfl rfl rfl (bld0) ?_
                      refine Plan.callF [] 0 rfl rfl rfl (.inl rfl) (by simp) (fun w hm => Place_ct (at0 o2) (SumF p (FlipF q).1).1 (0, 0) _ d2 w (Res.own_rd enc2 (hm.res (ownV o2 d2 (SumF p (FlipF q).1).1) (by simp))) rfl (by omega)) ?_   -- tinplate/convex.Place
                      rintro v Ln ⟨rfl, rfl⟩
                      refine Plan.move (v := .tuple _) rfl rfl rfl ?_
                      refine Plan.extract (v := .int _ _) rfl rfl rfl rfl ?_
                      refine Plan.extract (v := .int _ _) rfl rfl rfl rfl ?_
                      refine Plan.assign (v := .int _ _) rfl rfl rfl ?_
                      refine Plan.assign (v := .int _ _) rfl rfl rfl ?_
                      refine Plan.done ?_
                      refine HW.seq (HW.region [(0, .st), (1, .st), (2, .st), (3, .st), (4, .st), (5, .st), (6, .st), (7, .st), (8, .st), (9, .ef), (10, .st), (11, .st)] rfl rfl ?_)
                      refine Plan.move (v := .int _ _) rfl rfl rfl ?_
                      refine Plan.cmp2 rfl rfl rfl rfl rfl (fun h157 => ?_) (fun h157 => ?_)
                      · replace h157 := of_decide_eq_true h157
                        refine Plan.move (v := .bool _) rfl rfl rfl ?_
                        refine Plan.move (v := .int _ _) rfl rfl rfl ?_
                        refine Plan.cmp2 rfl rfl rfl rfl rfl (fun h160 => ?_) (fun h160 => ?_)
                        · replace h160 := of_decide_eq_true h160
                          refine Plan.move (v := .bool _) rfl rfl rfl ?_
                          refine Plan.eqB rfl rfl undB rfl rfl ?_
                          refine Plan.pick (v := .bool _) rfl rfl rfl rfl ?_
                          refine Plan.move (v := .bool _) rfl rfl rfl ?_
                          refine Plan.callF [] 0 rfl rfl rfl (.inl rfl) (by simp) (fun w hm => alive_ct w) ?_   -- tinplate/tinplatelaw03.alive
                          rintro v Ln ⟨rfl, rfl⟩
                          refine Plan.splitB (fun h165 => ?_) (fun h165 => ?_)
                          · skip
                            refine Plan.pick (v := .bool _) rfl rfl rfl rfl ?_
                            refine Plan.assign (v := .bool _) rfl rfl rfl ?_
                            refine Plan.done ?_
                            exact HW.ret ⟨rfl, _, [], .tmp rfl .nil, List.nil_sublist _, rfl, rfl⟩
                          · skip
                            cases h165
                        · replace h160 := of_decide_eq_false h160
                          exact absurd (z2.2 hx) h160
                      · replace h157 := of_decide_eq_false h157
                        omega
          · replace h53 := eq_of_f h53
            omega
        · replace h49 := of_decide_eq_false h49
          omega
    · skip
      refine Plan.not rfl rfl rfl ?_
      refine Plan.pick (v := .bool _) rfl rfl rfl rfl ?_
      refine Plan.done ?_
      refine HW.cond_true rfl ?_
      refine HW.seq (HW.region [(0, .ef), (1, .st)] rfl rfl ?_)
      refine Plan.callF [] 0 rfl rfl rfl (.inl rfl) (by simp) (fun w hm => alive_ct w) ?_   -- tinplate/tinplatelaw03.alive
      rintro v Ln ⟨rfl, rfl⟩
      refine Plan.splitB (fun h26 => ?_) (fun h26 => ?_)
      · skip
        refine Plan.assign (v := .bool _) rfl rfl rfl ?_
        refine Plan.done ?_
        exact HW.ret ⟨rfl, _, [], .tmp rfl .nil, List.nil_sublist _, rfl, rfl⟩
      · skip
        cases h26
  · skip
    refine Plan.not rfl rfl rfl ?_
    refine Plan.move (v := .bool _) rfl rfl rfl ?_
    refine Plan.no rfl rfl ?_
    refine Plan.noE rfl rfl ?_
    refine Plan.no rfl rfl ?_
    refine Plan.pick (v := .bool _) rfl rfl rfl rfl ?_
    refine Plan.done ?_
    refine HW.cond_true rfl ?_
    refine HW.seq (HW.region [(0, .ef), (1, .st)] rfl rfl ?_)
    refine Plan.callF [] 0 rfl rfl rfl (.inl rfl) (by simp) (fun w hm => alive_ct w) ?_   -- tinplate/tinplatelaw03.alive
    rintro v Ln ⟨rfl, rfl⟩
    refine Plan.splitB (fun h26 => ?_) (fun h26 => ?_)
    · skip
      refine Plan.assign (v := .bool _) rfl rfl rfl ?_
      refine Plan.done ?_
      exact HW.ret ⟨rfl, _, [], .tmp rfl .nil, List.nil_sublist _, rfl, rfl⟩
    · skip
      cases h26

set_option maxRecDepth 10000 in
set_option maxHeartbeats 2000000 in
theorem separates_ctF (A1 A2 : Option Addr) (p q : List Pt) (n1 c1 n2 c2 : Nat) (w : World) (hx : (OverlapF p q).1 = false) (hp : Rd enc 2 w A1 p) (hq : Rd enc 2 w A2 q) (hn1 : n1 = p.length) (hn2 : n2 = q.length) :
    Ct P 6 #[.slice A1 n1 c1, .slice A2 n2 c2] w [] (fun v L => v = .bool true ∧ L = []) := by
  subst hn1 hn2
  have k1 := FlipF_len' q
  have k2 := SumF_len' p (FlipF q).1
  have kd := sepdir_bd p q
  refine Ct.of_body (rs := [.tmp 4]) (N := 167) (L := []) Try.func6 rfl rfl rfl (by kernel_rfl) rfl (Mem.refl w) ?_
  refine HW.seq (HW.region [(0, .st)] rfl rfl ?_)
  refine Plan.assign (v := .bool _) rfl rfl rfl ?_
  refine Plan.done ?_
  refine HW.seq ?_
  refine HW.seq (HW.region [(0, .st), (1, .ef), (2, .st), (3, .st), (4, .st), (5, .ef), (6, .st), (7, .st)] rfl rfl ?_)
  refine Plan.move (v := .slice _ _ _) rfl rfl rfl ?_
  refine Plan.callF [] 0 rfl rfl rfl (.inl rfl) (by simp) (fun w hm => few_ct A1 p _ c1 w rfl) ?_   -- tinplate/tinplatelaw03.few
  rintro v Ln ⟨rfl, rfl⟩
  refine Plan.splitB (fun h19 => ?_) (fun h19 => ?_)
  · skip
    refine Plan.not rfl rfl rfl ?_
    refine Plan.move (v := .bool _) rfl rfl rfl ?_
    refine Plan.move (v := .slice _ _ _) rfl rfl rfl ?_
    refine Plan.callF [] 0 rfl rfl rfl (.inl rfl) (by simp) (fun w hm => few_ct A2 q _ c2 w rfl) ?_   -- tinplate/tinplatelaw03.few
    rintro v Ln ⟨rfl, rfl⟩
    refine Plan.splitB (fun h23 => ?_) (fun h23 => ?_)
    · skip
      have l1 := of_decide_eq_true h19
      have l2 := of_decide_eq_true h23
      refine Plan.not rfl rfl rfl ?_
      refine Plan.pick (v := .bool _) rfl rfl rfl rfl ?_
      refine Plan.done ?_
      refine HW.cond_false rfl ?_
      refine HW.skip ?_
      refine HW.seq (HW.region [(0, .st), (1, .st), (2, .ef), (3, .st), (4, .st), (5, .st), (6, .st), (7, .st)] rfl rfl ?_)
      refine Plan.move (v := .slice _ _ _) rfl rfl rfl ?_
      refine Plan.move (v := .slice _ _ _) rfl rfl rfl ?_
      refine Plan.callF [] 0 rfl rfl rfl (.inl rfl) (by simp) (fun w hm => Overlap_ct A1 A2 p q _ c1 _ c2 w (hp.mem hm) (hq.mem hm) rfl rfl (by omega) (by omega)) ?_   -- tinplate/convex.Overlap
      rintro v Ln ⟨rfl, rfl⟩
      rw [hx]
      refine Plan.move (v := .tuple _) rfl rfl rfl ?_
      refine Plan.extract (v := .bool _) rfl rfl rfl rfl ?_
      refine Plan.extract (v := .int _ _) rfl rfl rfl rfl ?_
      refine Plan.assign (v := .bool _) rfl rfl rfl ?_
      refine Plan.assign (v := .int _ _) rfl rfl rfl ?_
      refine Plan.done ?_
      refine HW.seq (HW.region [(0, .st), (1, .st), (2, .ef), (3, .st), (4, .st), (5, .st), (6, .al), (7, .ef), (8, .st)] rfl rfl ?_)
      refine Plan.move (v := .slice _ _ _) rfl rfl rfl ?_
      refine Plan.move (v := .slice _ _ _) rfl rfl rfl ?_
      refine Plan.callF [] 0 rfl rfl rfl (.inl rfl) (by simp) (fun w hm => Separate_ct A1 A2 p q _ c1 _ c2 w (hp.mem hm) (hq.mem hm) rfl rfl (by omega) (by omega)) ?_   -- tinplate/convex.Separate
      rintro v Ln ⟨rfl, rfl⟩
      refine Plan.move (v := .tuple _) rfl rfl rfl ?_
      refine Plan.extract (v := .agg _) rfl rfl rfl rfl ?_
      refine Plan.extract (v := .int _ _) rfl rfl rfl rfl ?_
      refine Plan.alloc rfl zerV fun b7 => ?_
      refine Plan.storeA 0 rfl rfl hDn sizV rfl rfl rfl rfl rfl rfl ?_
      refine Plan.assign (v := .int _ _) rfl rfl rfl ?_
      refine Plan.done ?_
      refine HW.seq ?_
      refine HW.seq (HW.region [(0, .st), (1, .st)] rfl rfl ?_)
      refine Plan.move (v := .int _ _) rfl rfl rfl ?_
      refine Plan.cmp2 rfl rfl rfl rfl rfl (fun h40 => ?_) (fun h40 => ?_)
      · replace h40 := ne_of_t h40
        refine Plan.done ?_
        refine HW.cond_true rfl ?_
        refine HW.seq (HW.region [(0, .st), (1, .st), (2, .st), (3, .st), (4, .ef), (5, .st), (6, .st)] rfl rfl ?_)
        refine Plan.move (v := .int _ _) rfl rfl rfl ?_
        refine Plan.move (v := .int _ _) rfl rfl rfl ?_
        refine Plan.cmp2 rfl rfl rfl rfl rfl (fun h43 => ?_) (fun h43 => ?_)
        · replace h43 := of_decide_eq_true h43
          refine Plan.move (v := .bool _) rfl rfl rfl ?_
          refine Plan.callF [] 0 rfl rfl rfl (.inl rfl) (by simp) (fun w hm => alive_ct w) ?_   -- tinplate/tinplatelaw03.alive
          rintro v Ln ⟨rfl, rfl⟩
          refine Plan.splitB (fun h45 => ?_) (fun h45 => ?_)
          · skip
            refine Plan.pick (v := .bool _) rfl rfl rfl rfl ?_
            refine Plan.assign (v := .bool _) rfl rfl rfl ?_
            refine Plan.done ?_
            exact HW.ret ⟨rfl, _, [], .tmp rfl .nil, List.nil_sublist _, rfl, rfl⟩
          · skip
            cases h45
        · replace h43 := of_decide_eq_false h43
          exact absurd (ov_sep p q h40) h43
      · replace h40 := eq_of_f h40
        obtain ⟨f0, dir, ov, fl, sm, atz⟩ := sep_spec h40
        obtain ⟨bp, bq⟩ := ov_valid h40
        rw [if_neg (by rw [hx]; decide)] at f0
        rw [hx] at ov
        refine Plan.done ?_
        refine HW.cond_false rfl ?_
        refine HW.skip ?_
        refine HW.seq ?_
        refine HW.seq (HW.region [(0, .st), (1, .st), (2, .st), (3, .st), (4, .st), (5, .st), (6, .st), (7, .st), (8, .st), (9, .st), (10, .st), (11, .st)] rfl rfl ?_)
        refine Plan.move (v := .bool _) rfl rfl rfl ?_
        refine Plan.move (v := .int _ _) rfl rfl rfl ?_
        refine Plan.cmp2 rfl rfl rfl rfl rfl (fun h49 => ?_) (fun h49 => ?_)
        · replace h49 := of_decide_eq_true h49
          omega
        · replace h49 := of_decide_eq_false h49
          refine Plan.neB rfl rfl undB rfl rfl ?_
          refine Plan.move (v := .bool _) rfl rfl rfl ?_
          refine Plan.move (v := .int _ _) rfl rfl rfl ?_
          refine Plan.cmp2 rfl rfl rfl rfl rfl (fun h53 => ?_) (fun h53 => ?_)
          · replace h53 := ne_of_t h53
            omega
          · replace h53 := eq_of_f h53
            refine Plan.move (v := .bool _) rfl rfl rfl ?_
            refine Plan.no rfl rfl ?_
            refine Plan.no rfl rfl ?_
            refine Plan.pick (v := .bool _) rfl rfl rfl rfl ?_
            refine Plan.pick (v := .bool _) rfl rfl rfl rfl ?_
            refine Plan.done ?_
            refine HW.cond_false rfl ?_
            refine HW.skip ?_
            refine HW.seq ?_
            refine HW.seq (HW.region [(0, .st), (1, .st)] rfl rfl ?_)
            refine Plan.move (v := .int _ _) rfl rfl rfl ?_
            refine Plan.cmp2 rfl rfl rfl rfl rfl (fun h60 => ?_) (fun h60 => ?_)
            · replace h60 := of_decide_eq_true h60
              obtain ⟨dnz, dir⟩ := dir h60
              refine Plan.done ?_
              refine HW.cond_true rfl ?_
              refine HW.seq ?_
              refine HW.seq (HW.region [(0, .st), (1, .st), (2, .st)] rfl rfl ?_)
              refine Plan.loadAll 0 rfl rfl aggV sizV rfl rfl rfl ?_
              refine Plan.build rfl rfl rfl (bld0) ?_
              refine Plan.eqV (SeparateF p q).1 (0, 0) rfl rfl rfl rfl rfl (fun h63 => ?_) (fun h63 => ?_)
              · skip
                exact absurd h63 dnz
              · skip
                refine Plan.done ?_
                refine HW.cond_false rfl ?_
                refine HW.skip ?_
                refine HW.seq (HW.region [(0, .st)] rfl rfl ?_)
                refine Plan.assign (v := .int _ _) rfl rfl rfl ?_
                refine Plan.done ?_
                refine HW.block ?_
                refine HW.loopC (G := Nat) [4, 9, 10, 64, 65, 66, 67, 68, 69, 70, 71, 72, 73, 74, 75, 76, 77, 78, 79, 80, 81, 82, 83, 84, 85, 86, 87, 88, 89, 90, 91, 92, 93, 94, 95, 96, 97, 98, 99, 100, 101, 102, 103, 104, 105, 106, 107, 108, 109, 110] (fun g => [(9, int g)]) (fun g => g ≤ p.length) (fun g => p.length - g) (0) ⟨rfl, trivial⟩ (Nat.zero_le _) (fun g F hok => ?_)
                obtain ⟨i, rfl⟩ : ∃ i, i = g := ⟨g, rfl⟩
                refine HW.seq ?_
                refine HW.seq (HW.region [(0, .st), (1, .st), (2, .st), (3, .st)] rfl rfl ?_)
                refine Plan.move (v := .int _ _) rfl rfl rfl ?_
                refine Plan.move (v := .slice _ _ _) rfl rfl rfl ?_
                refine Plan.len rfl rfl slV rfl ?_
                refine Plan.cmp2 rfl rfl rfl rfl rfl (fun h67 => ?_) (fun h67 => ?_)
                · replace h67 := of_decide_eq_true h67
                  have hlt : i < p.length := by omega
                  obtain ⟨ad, rfl, hl1⟩ := hp i hlt
                  refine Plan.done ?_
                  refine HW.cond_true rfl ?_
                  refine HW.skip ?_
                  refine HW.seq ?_
                  refine HW.block ?_
                  refine HW.seq (HW.region [(0, .st)] rfl rfl ?_)
                  refine Plan.assign (v := .int _ _) rfl rfl rfl ?_
                  refine Plan.done ?_
                  refine HW.block ?_
                  refine HW.loopC (G := Nat) [4, 10, 70, 71, 72, 73, 74, 75, 76, 77, 78, 79, 80, 81, 82, 83, 84, 85, 86, 87, 88, 89, 90, 91, 92, 93, 94, 95, 96, 97, 98, 99, 100, 101, 102, 103, 104, 105, 106, 107, 108, 109, 110] (fun g => [(10, int g)]) (fun g => g ≤ q.length) (fun g => q.length - g) (0) ⟨rfl, trivial⟩ (Nat.zero_le _) (fun g F hok => ?_)
                  obtain ⟨j, rfl⟩ : ∃ j, j = g := ⟨g, rfl⟩
                  refine HW.seq ?_
                  refine HW.seq (HW.region [(0, .st), (1, .st), (2, .st), (3, .st)] rfl rfl ?_)
                  refine Plan.move (v := .int _ _) rfl rfl rfl ?_
                  refine Plan.move (v := .slice _ _ _) rfl rfl rfl ?_
                  refine Plan.len rfl rfl slV rfl ?_
                  refine Plan.cmp2 rfl rfl rfl rfl rfl (fun h73 => ?_) (fun h73 => ?_)
                  · replace h73 := of_decide_eq_true h73
                    have hlt2 : j < q.length := by omega
                    obtain ⟨ad2, rfl, hl2⟩ := hq j hlt2
                    have dd1 := dir _ (List.getElem_mem hlt) _ (List.getElem_mem hlt2)
                    have pb := bp _ (List.getElem_mem hlt)
                    have qb := bq _ (List.getElem_mem hlt2)
                    have m1 := mul_bd kd.1 pb.1
                    have m2 := mul_bd kd.2 pb.2
                    have m3 := mul_bd kd.1 qb.1
                    have m4 := mul_bd kd.2 qb.2
                    unfold dotP dotI at dd1
                    refine Plan.done ?_
                    refine HW.cond_true rfl ?_
                    refine HW.skip ?_
                    refine HW.seq ?_
                    refine HW.block ?_
                    refine HW.seq (HW.region_any [] [(0, .st), (1, .st), (2, .st), (3, .st), (4, .st), (5, .st), (6, .st), (7, .st), (8, .st), (9, .st), (10, .st), (11, .st), (12, .st), (13, .st), (14, .st), (15, .st), (16, .st), (17, .st), (18, .st), (19, .st), (20, .st), (21, .st), (22, .st), (23, .st), (24, .st), (25, .st), (26, .st), (27, .st), (28, .st), (29, .st), (30, .st), (31, .st), (32, .st), (33, .st), (34, .st)] mix (by kernel_rfl) (fun _ _ _ _ _ h => h) (zeros rfl) ?_)
                    refine Plan.fieldAddr rfl rfl fldV0 rfl ?_
                    refine Plan.load (v := .int _ _) rfl rfl aggI rfl (Sees.one 0 rfl rfl) ?_
                    refine Plan.move (v := .slice _ _ _) rfl rfl rfl ?_
                    refine Plan.move (v := .int _ _) rfl rfl rfl ?_
                    refine Plan.indexN (i) rfl rfl slV sizV rfl rfl rfl rfl (hlt) ?_
                    refine Plan.fieldAddr rfl rfl fldV0 rfl ?_
                    refine Plan.load (v := .int _ _) rfl rfl aggI rfl (Sees.fx (Sees.old hl1 (by simp))) ?_
                    refine Plan.arithI rfl rfl rfl rfl rfl (by omega) ?_
                    refine Plan.fieldAddr rfl rfl fldV1 rfl ?_
                    refine Plan.load (v := .int _ _) rfl rfl aggI rfl (Sees.one 0 rfl rfl) ?_
                    refine Plan.move (v := .slice _ _ _) rfl rfl rfl ?_
                    refine Plan.move (v := .int _ _) rfl rfl rfl ?_
                    refine Plan.indexN (i) rfl rfl slV sizV rfl rfl rfl rfl (hlt) ?_
                    refine Plan.fieldAddr rfl rfl fldV1 rfl ?_
                    refine Plan.load (v := .int _ _) rfl rfl aggI rfl (Sees.fy (Sees.old hl1 (by simp))) ?_
                    refine Plan.arithI rfl rfl rfl rfl rfl (by omega) ?_
                    refine Plan.arithI rfl rfl rfl rfl rfl (by omega) ?_
                    refine Plan.fieldAddr rfl rfl fldV0 rfl ?_
                    refine Plan.load (v := .int _ _) rfl rfl aggI rfl (Sees.one 0 rfl rfl) ?_
                    refine Plan.move (v := .slice _ _ _) rfl rfl rfl ?_
                    refine Plan.move (v := .int _ _) rfl rfl rfl ?_
                    refine Plan.indexN (j) rfl rfl slV sizV rfl rfl rfl rfl (hlt2) ?_
                    refine Plan.fieldAddr rfl rfl fldV0 rfl ?_
                    refine Plan.load (v := .int _ _) rfl rfl aggI rfl (Sees.fx (Sees.old hl2 (by simp))) ?_
                    refine Plan.arithI rfl rfl rfl rfl rfl (by omega) ?_
                    refine Plan.fieldAddr rfl rfl fldV1 rfl ?_
                    refine Plan.load (v := .int _ _) rfl rfl aggI rfl (Sees.one 0 rfl rfl) ?_
                    refine Plan.move (v := .slice _ _ _) rfl rfl rfl ?_
                    refine Plan.move (v := .int _ _) rfl rfl rfl ?_
                    refine Plan.indexN (j) rfl rfl slV sizV rfl rfl rfl rfl (hlt2) ?_
                    refine Plan.fieldAddr rfl rfl fldV1 rfl ?_
                    refine Plan.load (v := .int _ _) rfl rfl aggI rfl (Sees.fy (Sees.old hl2 (by simp))) ?_
                    refine Plan.arithI rfl rfl rfl rfl rfl (by omega) ?_
                    refine Plan.arithI rfl rfl rfl rfl rfl (by omega) ?_
                    refine Plan.cmp2 rfl rfl rfl rfl rfl (fun h110 => ?_) (fun h110 => ?_)
                    · replace h110 := of_decide_eq_true h110
                      omega
                    · replace h110 := of_decide_eq_false h110
                      refine Plan.done ?_
                      refine HW.cond_false rfl ?_
                      refine HW.skip ?_
                      refine HW.region [(0, .st), (1, .st), (2, .st)] rfl rfl ?_
                      refine Plan.move (v := .int _ _) rfl rfl rfl ?_
                      refine Plan.arithI rfl rfl rfl rfl rfl (by omega) ?_
                      refine Plan.assign (v := .int _ _) rfl rfl rfl ?_
                      refine Plan.done ?_
                      exact ⟨j + 1, by simp only; omega, hlt2, rfl, Ent.sub (.refl _), (by repeat (first | exact Agree.havoc _ _ _ | refine Agree.updN ?_ | refine Agree.upd rfl ?_ | refine Agree.updL rfl ?_ | refine Agree.havoc2 rfl ?_)), ⟨rfl, trivial⟩⟩
                  · replace h73 := of_decide_eq_false h73
                    refine Plan.done ?_
                    refine HW.cond_false rfl ?_
                    refine HW.exit ?_
                    refine HW.region [(0, .st), (1, .st), (2, .st)] rfl rfl ?_
                    refine Plan.move (v := .int _ _) rfl rfl rfl ?_
                    refine Plan.arithI rfl rfl rfl rfl rfl (by omega) ?_
                    refine Plan.assign (v := .int _ _) rfl rfl rfl ?_
                    refine Plan.done ?_
                    exact ⟨i + 1, by simp only; omega, hlt, rfl, Ent.sub (.refl _), (by repeat (first | exact Agree.havoc _ _ _ | refine Agree.updN ?_ | refine Agree.upd rfl ?_ | refine Agree.updL rfl ?_ | refine Agree.havoc2 rfl ?_)), ⟨rfl, trivial⟩⟩
                · replace h67 := of_decide_eq_false h67
                  refine Plan.done ?_
                  refine HW.cond_false rfl ?_
                  refine HW.exit ?_
                  refine HW.seq (HW.region [(0, .st), (1, .st), (2, .ef), (3, .st), (4, .st), (5, .st), (6, .st), (7, .st)] rfl rfl ?_)
                  refine Plan.move (v := .slice _ _ _) rfl rfl rfl ?_
                  refine Plan.move (v := .slice _ _ _) rfl rfl rfl ?_
                  refine Plan.callF [] 0 rfl rfl rfl (.inl rfl) (by simp) (fun w hm => Overlap_ct A2 A1 q p _ c2 _ c1 w (hq.mem hm) (hp.mem hm) rfl rfl (by omega) (by omega)) ?_   -- tinplate/convex.Overlap
                  rintro v Ln ⟨rfl, rfl⟩
                  rw [ov]
                  refine Plan.move (v := .tuple _) rfl rfl rfl ?_
                  refine Plan.extract (v := .bool _) rfl rfl rfl rfl ?_
                  refine Plan.extract (v := .int _ _) rfl rfl rfl rfl ?_
                  refine Plan.assign (v := .bool _) rfl rfl rfl ?_
                  refine Plan.assign (v := .int _ _) rfl rfl rfl ?_
                  refine Plan.done ?_
                  refine HW.seq (HW.region [(0, .st), (1, .ef), (2, .st), (3, .st), (4, .st), (5, .st), (6, .st)] rfl rfl ?_)
                  refine Plan.move (v := .slice _ _ _) rfl rfl rfl ?_
                  refine Plan.callF [] 0 rfl rfl rfl (.inl rfl) (by simp) (fun w hm => Flip_ct A2 q _ c2 w (hq.mem hm) rfl (by omega)) ?_   -- tinplate/convex.Flip
                  rintro v Ln ⟨o1, d1, rfl, rfl⟩
                  refine Plan.move (v := .tuple _) rfl rfl rfl ?_
                  refine Plan.extract (v := .slice _ _ _) rfl rfl rfl rfl ?_
                  refine Plan.extract (v := .int _ _) rfl rfl rfl rfl ?_
                  refine Plan.assign (v := .slice _ _ _) rfl rfl rfl ?_
                  refine Plan.assign (v := .int _ _) rfl rfl rfl ?_
                  refine Plan.done ?_
                  refine HW.seq (HW.region [(0, .st), (1, .st), (2, .ef), (3, .st), (4, .st), (5, .st), (6, .st), (7, .st)] rfl rfl ?_)
                  refine Plan.move (v := .slice _ _ _) rfl rfl rfl ?_
                  refine Plan.move (v := .slice _ _ _) rfl rfl rfl ?_
                  refine Plan.callF [] 0 rfl rfl rfl (.inl rfl) (by simp) (fun w hm => Sum_ct A1 (at0 o1) p (FlipF q).1 _ c1 _ d1 w (hp.mem hm) (Res.own_rd enc2 (hm.res (ownV o1 d1 (FlipF q).1) (by simp))) rfl rfl (by omega) (by omega)) ?_   -- tinplate/convex.Sum
                  rintro v Ln ⟨o2, d2, rfl, rfl⟩
                  refine Plan.move (v := .tuple _) rfl rfl rfl ?_
                  refine Plan.extract (v := .slice _ _ _) rfl rfl rfl rfl ?_
                  refine Plan.extract (v := .int _ _) rfl rfl rfl rfl ?_
                  refine Plan.assign (v := .slice _ _ _) rfl rfl rfl ?_
                  refine Plan.assign (v := .int _ _) rfl rfl rfl ?_
                  refine Plan.done ?_
                  refine HW.seq ?_
                  refine HW.seq (HW.region [(0, .st), (1, .st), (2, .st), (3, .st), (4, .st), (5, .st), (6, .st), (7, .st), (8, .st), (9, .st), (10, .st)] rfl rfl ?_)
                  refine Plan.move (v := .int _ _) rfl rfl rfl ?_
                  refine Plan.cmp2 rfl rfl rfl rfl rfl (fun h129 => ?_) (fun h129 => ?_)
                  · replace h129 := ne_of_t h129
                    exact absurd rfl h129
                  · replace h129 := eq_of_f h129
                    refine Plan.move (v := .bool _) rfl rfl rfl ?_
                    refine Plan.move (v := .int _ _) rfl rfl rfl ?_
                    refine Plan.cmp2 rfl rfl rfl rfl rfl (fun h132 => ?_) (fun h132 => ?_)
                    · replace h132 := ne_of_t h132
                      omega
                    · replace h132 := eq_of_f h132
                      refine Plan.pick (v := .bool _) rfl rfl rfl rfl ?_
                      refine Plan.move (v := .bool _) rfl rfl rfl ?_
                      refine Plan.move (v := .bool _) rfl rfl rfl ?_
                      refine Plan.move (v := .bool _) rfl rfl rfl ?_
                      refine Plan.neB rfl rfl undB rfl rfl ?_
                      refine Plan.pick (v := .bool _) rfl rfl rfl rfl ?_
                      refine Plan.done ?_
                      refine HW.cond_false rfl ?_
                      refine HW.skip ?_
                      refine HW.seq ?_
                      refine HW.seq (HW.region [(0, .st), (1, .st)] rfl rfl ?_)
                      refine Plan.move (v := .int _ _) rfl rfl rfl ?_
                      refine Plan.cmp2 rfl rfl rfl rfl rfl (fun h140 => ?_) (fun h140 => ?_)
                      · replace h140 := ne_of_t h140
                        refine Plan.done ?_
                        refine HW.cond_true rfl ?_
                        refine HW.seq (HW.region [(0, .st), (1, .st), (2, .st), (3, .st), (4, .st), (5, .st), (6, .st), (7, .ef), (8, .st), (9, .st)] rfl rfl ?_)
                        refine Plan.move (v := .int _ _) rfl rfl rfl ?_
                        refine Plan.cmp2 rfl rfl rfl rfl rfl (fun h142 => ?_) (fun h142 => ?_)
                        · replace h142 := of_decide_eq_true h142
                          refine Plan.move (v := .bool _) rfl rfl rfl ?_
                          refine Plan.no rfl rfl ?_
                          refine Plan.no rfl rfl ?_
                          refine Plan.pick (v := .bool _) rfl rfl rfl rfl ?_
                          refine Plan.move (v := .bool _) rfl rfl rfl ?_
                          refine Plan.callF [] 0 rfl rfl rfl (.inl rfl) (by simp) (fun w hm => alive_ct w) ?_   -- tinplate/tinplatelaw03.alive
                          rintro v Ln ⟨rfl, rfl⟩
                          refine Plan.splitB (fun h148 => ?_) (fun h148 => ?_)
                          · skip
                            refine Plan.pick (v := .bool _) rfl rfl rfl rfl ?_
                            refine Plan.assign (v := .bool _) rfl rfl rfl ?_
                            refine Plan.done ?_
                            exact HW.ret ⟨rfl, _, [], .tmp rfl .nil, List.nil_sublist _, rfl, rfl⟩
                          · skip
                            cases h148
                        · replace h142 := of_decide_eq_false h142
                          refine Plan.move (v := .bool _) rfl rfl rfl ?_
                          refine Plan.move (v := .int _ _) rfl rfl rfl ?_
                          refine Plan.cmp2 rfl rfl rfl rfl rfl (fun h145 => ?_) (fun h145 => ?_)
                          · replace h145 := of_decide_eq_true h145
                            refine Plan.pick (v := .bool _) rfl rfl rfl rfl ?_
                            refine Plan.move (v := .bool _) rfl rfl rfl ?_
                            refine Plan.callF [] 0 rfl rfl rfl (.inl rfl) (by simp) (fun w hm => alive_ct w) ?_   -- tinplate/tinplatelaw03.alive
                            rintro v Ln ⟨rfl, rfl⟩
                            refine Plan.splitB (fun h148 => ?_) (fun h148 => ?_)
                            · skip
                              refine Plan.pick (v := .bool _) rfl rfl rfl rfl ?_
                              refine Plan.assign (v := .bool _) rfl rfl rfl ?_
                              refine Plan.done ?_
                              exact HW.ret ⟨rfl, _, [], .tmp rfl .nil, List.nil_sublist _, rfl, rfl⟩
                            · skip
                              cases h148
                          · replace h145 := of_decide_eq_false h145
                            omega
                      · replace h140 := eq_of_f h140
                        obtain ⟨z1, z2⟩ := atz h140
                        refine Plan.done ?_
                        refine HW.cond_false rfl ?_
                        refine HW.skip ?_
                        refine HW.seq (HW.region [(0, .st), (1, .st), (2, .ef), (3, .st), (4, .st), (5, .st), (6, .st), (7, .st)] rfl rfl ?_)
                        refine Plan.move (v := .slice _ _ _) rfl rfl rfl ?_
                        refine Plan.build rfl rfl rfl (bld0) ?_
                        refine Plan.callF [] 0 rfl rfl rfl (.inl rfl) (by simp) (fun w hm => Place_ct (at0 o2) (SumF p (FlipF q).1).1 (0, 0) _ d2 w (Res.own_rd enc2 (hm.res (ownV o2 d2 (SumF p (FlipF q).1).1) (by simp))) rfl (by omega)) ?_   -- tinplate/convex.Place
                        rintro v Ln ⟨rfl, rfl⟩
                        refine Plan.move (v := .tuple _) rfl rfl rfl ?_
                        refine Plan.extract (v := .int _ _) rfl rfl rfl rfl ?_
                        refine Plan.extract (v := .int _ _) rfl rfl rfl rfl ?_
                        refine Plan.assign (v := .int _ _) rfl rfl rfl ?_
                        refine Plan.assign (v := .int _ _) rfl rfl rfl ?_
                        refine Plan.done ?_
                        refine HW.seq (HW.region [(0, .st), (1, .st), (2, .st), (3, .st), (4, .st), (5, .st), (6, .st), (7, .st), (8, .st), (9, .ef), (10, .st), (11, .st)] rfl rfl ?_)
                        refine Plan.move (v := .int _ _) rfl rfl rfl ?_
                        refine Plan.cmp2 rfl rfl rfl rfl rfl (fun h157 => ?_) (fun h157 => ?_)
                        · replace h157 := of_decide_eq_true h157
                          refine Plan.move (v := .bool _) rfl rfl rfl ?_
                          refine Plan.move (v := .int _ _) rfl rfl rfl ?_
                          refine Plan.cmp2 rfl rfl rfl rfl rfl (fun h160 => ?_) (fun h160 => ?_)
                          · replace h160 := of_decide_eq_true h160
                            exact absurd (z2.1 h160) (by rw [hx]; decide)
                          · replace h160 := of_decide_eq_false h160
                            refine Plan.move (v := .bool _) rfl rfl rfl ?_
                            refine Plan.eqB rfl rfl undB rfl rfl ?_
                            refine Plan.pick (v := .bool _) rfl rfl rfl rfl ?_
                            refine Plan.move (v := .bool _) rfl rfl rfl ?_
                            refine Plan.callF [] 0 rfl rfl rfl (.inl rfl) (by simp) (fun w hm => alive_ct w) ?_   -- tinplate/tinplatelaw03.alive
                            rintro v Ln ⟨rfl, rfl⟩
                            refine Plan.splitB (fun h165 => ?_) (fun h165 => ?_)
                            · skip
                              refine Plan.pick (v := .bool _) rfl rfl rfl rfl ?_
                              refine Plan.assign (v := .bool _) rfl rfl rfl ?_
                              refine Plan.done ?_
                              exact HW.ret ⟨rfl, _, [], .tmp rfl .nil, List.nil_sublist _, rfl, rfl⟩
                            · skip
                              cases h165
                        · replace h157 := of_decide_eq_false h157
                          omega
            · replace h60 := of_decide_eq_false h60
              omega
    · skip
      refine Plan.not rfl rfl rfl ?_
      refine Plan.pick (v := .bool _) rfl rfl rfl rfl ?_
      refine Plan.done ?_
      refine HW.cond_true rfl ?_
      refine HW.seq (HW.region [(0, .ef), (1, .st)] rfl rfl ?_)
      refine Plan.callF [] 0 rfl rfl rfl (.inl rfl) (by simp) (fun w hm => alive_ct w) ?_   -- tinplate/tinplatelaw03.alive
      rintro v Ln ⟨rfl, rfl⟩
      refine Plan.splitB (fun h26 => ?_) (fun h26 => ?_)
      · skip
        refine Plan.assign (v := .bool _) rfl rfl rfl ?_
        refine Plan.done ?_
        exact HW.ret ⟨rfl, _, [], .tmp rfl .nil, List.nil_sublist _, rfl, rfl⟩
      · skip
        cases h26
  · skip
    refine Plan.not rfl rfl rfl ?_
    refine Plan.move (v := .bool _) rfl rfl rfl ?_
    refine Plan.no rfl rfl ?_
    refine Plan.noE rfl rfl ?_
    refine Plan.no rfl rfl ?_
    refine Plan.pick (v := .bool _) rfl rfl rfl rfl ?_
    refine Plan.done ?_
    refine HW.cond_true rfl ?_
    refine HW.seq (HW.region [(0, .ef), (1, .st)] rfl rfl ?_)
    refine Plan.callF [] 0 rfl rfl rfl (.inl rfl) (by simp) (fun w hm => alive_ct w) ?_   -- tinplate/tinplatelaw03.alive
    rintro v Ln ⟨rfl, rfl⟩
    refine Plan.splitB (fun h26 => ?_) (fun h26 => ?_)
    · skip
      refine Plan.assign (v := .bool _) rfl rfl rfl ?_
      refine Plan.done ?_
      exact HW.ret ⟨rfl, _, [], .tmp rfl .nil, List.nil_sublist _, rfl, rfl⟩
    · skip
      cases h26

theorem separates_ct (A1 A2 : Option Addr) (p q : List Pt) (n1 c1 n2 c2 : Nat) (w : World) (hp : Rd enc 2 w A1 p) (hq : Rd enc 2 w A2 q) (hn1 : n1 = p.length) (hn2 : n2 = q.length) :
    Ct P 6 #[.slice A1 n1 c1, .slice A2 n2 c2] w [] (fun v L => v = .bool true ∧ L = []) := by
  cases hx : (OverlapF p q).1 with
  | true => exact separates_ctT A1 A2 p q n1 c1 n2 c2 w hx hp hq hn1 hn2
  | false => exact separates_ctF A1 A2 p q n1 c1 n2 c2 w hx hp hq hn1 hn2

end Go.Proofs.Ytoghphikfkdkmaa.V
