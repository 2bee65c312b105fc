/-
  Proved: the given statement BlankLayoutSaid (a layout lies in the sheet without overlap, differs by vectors of the grid, has no more area, no other class has more, a larger sheet has no fewer); no conditions.
-/
import Derived.Test.YtjmklbkcpjmcaaaR0
import Derived.Test.YtjmklbkcpjmcaaaBx
import Derived.Test.YtjmklbkcpjmcaaaRows
namespace Go.Proofs.Ytjmklbkcpjmcaaa
open Go Go.RowKit Go.ChangeShapes Go.WideShapes Go.ChangeAt Go.Proofs.Ytjmklbkcpjmcaaa.H Go.Proofs.Ytjmklbkcpjmcaaa.V
set_option linter.unusedVariables false

theorem ownT : ownKnob Try.prog.godebug = none := by kernel_rfl
theorem laidOutT : laidOutB Try.prog = true := by kernel_rfl

set_option maxRecDepth 100000 in
theorem layout_lifted
    (os : Os) (started : os.Started) (K : Type) (en : TypeId × Value → K) :
    ReturnsInHanded {} Try.checked os 12 .any (Rows.blankLayoutSpec.pre6 en Try.prog Try.f12 Rows.blankLayoutRow.domain false) (Rows.blankLayoutSpec.post en Try.prog Try.f12 false true false false) := by
  refine returnsInHanded_of_change (C := Try.checked) ownT started (by kernel_rfl) Try.func12
    (ChangeSpec.witness6 (enc := en) (C := Try.checked) false ⟨#[], #[.slice none 0 0, .agg #[.int .i64 0, .int .i64 0, .int .i64 0], .int .i64 0, .int .i64 0, .agg #[.int .i64 0, .int .i64 0], .int .u8 0], []⟩ 8 (by kernel_rfl) (by kernel_rfl) (by kernel_rfl) (by kernel_rfl)) ?_
  intro W base args ds gs before hval0 hW hcnd _
  have hval : ∀ (j : Nat) t v, Try.f12.params[j]? = some t → args[j]? = some v → Value.okWide Try.prog W .any base t v := hval0
  have hW' := hW
  obtain ⟨p, q, hA0, hV, rfl, hfz, hnd⟩ := hW
  have hA : DataW.TrodAll en Try.prog W 0 (fun _ => true) true Try.f12.params.toList args.toList ds p := hA0
  rw [Try.params12] at hA hval
  obtain ⟨v0, v1, v2, v3, v4, v5, d0, d1, d2, d3, d4, d5, p0, p1, p2, p3, p4, p5, rfl, rfl, rfl, h0, h1, h2, h3, h4, h5⟩ := trodAll_six' hA
  obtain ⟨rfl, rfl⟩ := trodVars_none hV
  obtain ⟨A0, n0, c0, ps0, rfl, e0, r0⟩ := open_vecs h0 (hval 0 22 v0 rfl rfl)
  have h1k := h1
  obtain ⟨x10, x11, x12, y10, y11, y12, m1, rfl, hd1, hp1, hy10, hy11, hy12⟩ := Go.Joins.open_agg3 Try.underlying26 (by kernel_rfl) (by kernel_rfl) (hval 1 26 v1 rfl rfl) h1
  obtain ⟨xa1, ea1, -, wx1⟩ := DataW.trod_int Try.underlying3 hy10
  obtain ⟨xb1, eb1, -, wy1⟩ := DataW.trod_int Try.underlying3 hy11
  obtain ⟨xc1, ec1, -, wz1⟩ := DataW.trod_int Try.underlying3 hy12
  simp at ea1 eb1 ec1
  subst ea1 eb1 ec1
  obtain ⟨z2, hz2, -, -, wz2⟩ := open_int Try.underlying3 (hval 2 3 v2 rfl rfl) h2
  subst hz2
  obtain ⟨z3, hz3, -, -, wz3⟩ := open_int Try.underlying3 (hval 3 3 v3 rfl rfl) h3
  subst hz3
  have h4k := h4
  obtain ⟨x40, x41, y40, y41, m4, rfl, hd4, hp4, hy40, hy41⟩ := Go.Joins.open_agg2 Try.underlying52 (by kernel_rfl) (by kernel_rfl) (hval 4 52 v4 rfl rfl) h4
  obtain ⟨xa4, ea4, -, wx4⟩ := DataW.trod_int Try.underlying3 hy40
  obtain ⟨xb4, eb4, -, wy4⟩ := DataW.trod_int Try.underlying3 hy41
  simp at ea4 eb4
  subst ea4 eb4
  obtain ⟨z5, hz5, -, -, wz5⟩ := open_int Try.underlying5 (hval 5 5 v5 rfl rfl) h5
  subst hz5
  clear hA0 hval0
  simp only [List.append_nil] at hW'
  refine (blankLayout_ct A0 ps0 xa1 xb1 xc1 z2 z3 (xa4, xb4) z5 n0 c0 W r0 e0 (u8_range wz5).1 (u8_range wz5).2).2.mono fun e W' ⟨v, L, he, hm, hv, hL⟩ => ?_
  subst he hv hL
  have hb' : Below W.heap.size W W' := hm.below
  have lt0 : ∀ x ∈ p0, x.block < W.heap.size := fun x hx => by simpa using hW'.lt x (by simp [hx])
  have lt1 : ∀ x ∈ p1, x.block < W.heap.size := fun x hx => by simpa using hW'.lt x (by simp [hx])
  have lt2 : ∀ x ∈ p2, x.block < W.heap.size := fun x hx => by simpa using hW'.lt x (by simp [hx])
  have lt3 : ∀ x ∈ p3, x.block < W.heap.size := fun x hx => by simpa using hW'.lt x (by simp [hx])
  have lt4 : ∀ x ∈ p4, x.block < W.heap.size := fun x hx => by simpa using hW'.lt x (by simp [hx])
  have lt5 : ∀ x ∈ p5, x.block < W.heap.size := fun x hx => by simpa using hW'.lt x (by simp [hx])
  exact ⟨_, rfl, post_of_mem hW' hm.nil (fun _ _ _ => trodAll_mk1 (shut_bool Try.underlying4 true)) (fun sp hsp => by
      exact trodAll_mk6' (WideElems.Trod_stays laidOutT (by kernel_rfl) (of_decide_eq_true (by kernel_rfl)) h0 (fun x hx => hb'.same (lt0 x hx)) (fun x hx => hsp x (by simp [hx])))
        (WideElems.Trod_stays laidOutT (by kernel_rfl) (of_decide_eq_true (by kernel_rfl)) h1k (fun x hx => hb'.same (lt1 x hx)) (fun x hx => hsp x (by simp [hx])))
        (WideElems.Trod_stays laidOutT (by kernel_rfl) (of_decide_eq_true (by kernel_rfl)) h2 (fun x hx => hb'.same (lt2 x hx)) (fun x hx => hsp x (by simp [hx])))
        (WideElems.Trod_stays laidOutT (by kernel_rfl) (of_decide_eq_true (by kernel_rfl)) h3 (fun x hx => hb'.same (lt3 x hx)) (fun x hx => hsp x (by simp [hx])))
        (WideElems.Trod_stays laidOutT (by kernel_rfl) (of_decide_eq_true (by kernel_rfl)) h4k (fun x hx => hb'.same (lt4 x hx)) (fun x hx => hsp x (by simp [hx])))
        (WideElems.Trod_stays laidOutT (by kernel_rfl) (of_decide_eq_true (by kernel_rfl)) h5 (fun x hx => hb'.same (lt5 x hx)) (fun x hx => hsp x (by simp [hx]))))
    (fun _ => rfl) (ok_one (by kernel_rfl) rfl (okWide_bool_mk Try.underlying4 true))⟩

theorem layout_row : Rows.BlankLayoutSaid :=
  OpenClaim.holds_of_wide 12 Try.f12 rfl rfl rfl rfl rfl rfl rfl ⟨rfl, rfl, rfl, rfl, rfl⟩ rfl rfl rfl rfl rfl (by kernel_rfl) Try.func12 (by kernel_rfl)
    (of_decide_eq_true (by kernel_rfl)) (by unfold Func.isWrapper; rw [if_neg (by decide +kernel)]; exact ⟨rfl, rfl⟩)
    (fun os started K en _ => layout_lifted os started K en)

end Go.Proofs.Ytjmklbkcpjmcaaa
