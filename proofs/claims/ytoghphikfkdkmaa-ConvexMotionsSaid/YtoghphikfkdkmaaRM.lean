/-
  Proved: the given statement ConvexMotionsSaid (Area, Points, Overlap and Inside do not change when both polygons are moved or flipped); no conditions.
-/
import Derived.Test.YtoghphikfkdkmaaR0
import Derived.Test.YtoghphikfkdkmaaM4
import Derived.Test.YtoghphikfkdkmaaRows
namespace Go.Proofs.Ytoghphikfkdkmaa
open Go Go.RowKit Go.ChangeShapes Go.WideShapes Go.ChangeAt Go.Proofs.Ytoghphikfkdkmaa.H Go.Proofs.Ytoghphikfkdkmaa.V
set_option linter.unusedVariables false

theorem ownT : ownKnob Try.prog.godebug = none := by kernel_rfl
theorem laidOutT : laidOutB Try.prog = true := by kernel_rfl

set_option maxRecDepth 100000 in
theorem motions_lifted
    (os : Os) (started : os.Started) (K : Type) (en : TypeId × Value → K) :
    ReturnsInHanded {} Try.checked os 7 .any (Rows.convexMotionsSpec.pre6 en Try.prog Try.f7 Rows.convexMotionsRow.domain false) (Rows.convexMotionsSpec.post en Try.prog Try.f7 false true false false) := by
  refine returnsInHanded_of_change (C := Try.checked) ownT started (by kernel_rfl) Try.func7
    (ChangeSpec.witness6 (enc := en) (C := Try.checked) false ⟨#[], #[.slice none 0 0, .slice none 0 0, .agg #[.int .i64 0, .int .i64 0]], []⟩ 8 (by kernel_rfl) (by kernel_rfl) (by kernel_rfl) (by kernel_rfl)) ?_
  intro W base args ds gs before hval0 hW hcnd _
  have hval : ∀ (j : Nat) t v, Try.f7.params[j]? = some t → args[j]? = some v → Value.okWide Try.prog W .any base t v := hval0
  have hW' := hW
  obtain ⟨p, q, hA0, hV, rfl, hfz, hnd⟩ := hW
  have hA : DataW.TrodAll en Try.prog W 0 (fun _ => true) true Try.f7.params.toList args.toList ds p := hA0
  rw [Try.params7] at hA hval
  obtain ⟨v0, v1, v2, d0, d1, d2, p0, p1, p2, rfl, rfl, rfl, h0, h1, h2⟩ := trodAll_three hA
  obtain ⟨rfl, rfl⟩ := trodVars_none hV
  obtain ⟨A1, n1, c1, ps, rfl, e1, r1⟩ := open_vecs h0 (hval 0 22 v0 rfl rfl)
  obtain ⟨A2, n2, c2, qs, rfl, e2, r2⟩ := open_vecs h1 (hval 1 22 v1 rfl rfl)
  have h2k := h2
  obtain ⟨x0, x1, y0, y1, m, rfl, hd2, hp2, hy0, hy1⟩ := Go.Joins.open_agg2 Try.underlying36 (by kernel_rfl) (by kernel_rfl) (hval 2 36 v2 rfl rfl) h2
  obtain ⟨xa, ea, -, wx⟩ := DataW.trod_int Try.underlying3 hy0
  obtain ⟨xb, eb, -, wy⟩ := DataW.trod_int Try.underlying3 hy1
  simp at ea eb
  subst ea eb
  clear hA0 hval0
  simp only [List.append_nil] at hW'
  refine (convexMotions_ct A1 A2 ps qs (xa, xb) n1 c1 n2 c2 W r1 r2 e1 e2).2.mono fun e W' ⟨v, L, he, hm, hv, hL⟩ => ?_
  subst he hv hL
  have hb := hm.below
  have lt0 : ∀ x ∈ p0, x.block < W.heap.size := fun x hx => by simpa using hW'.lt x (by simp [hx])
  have lt1 : ∀ x ∈ p1, x.block < W.heap.size := fun x hx => by simpa using hW'.lt x (by simp [hx])
  have lt2 : ∀ x ∈ p2, x.block < W.heap.size := fun x hx => by simpa using hW'.lt x (by simp [hx])
  have hb' : Below W.heap.size W W' := hb
  exact ⟨_, rfl, post_of_mem hW' hm.nil (fun _ _ _ => trodAll_mk1 (shut_bool Try.underlying4 true)) (fun sp hsp => by
      rw [List.append_assoc]
      exact trodAll_mk3 (WideElems.Trod_stays laidOutT (by kernel_rfl) (of_decide_eq_true (by kernel_rfl)) h0 (fun x hx => hb'.same (lt0 x hx)) (fun x hx => hsp x (by simp [hx])))
        (WideElems.Trod_stays laidOutT (by kernel_rfl) (of_decide_eq_true (by kernel_rfl)) h1 (fun x hx => hb'.same (lt1 x hx)) (fun x hx => hsp x (by simp [hx])))
        (WideElems.Trod_stays laidOutT (by kernel_rfl) (of_decide_eq_true (by kernel_rfl)) h2k (fun x hx => hb'.same (lt2 x hx)) (fun x hx => hsp x (by simp [hx]))))
    (fun _ => rfl) (ok_one (by kernel_rfl) rfl (okWide_bool_mk Try.underlying4 true))⟩

theorem motions_row : Rows.ConvexMotionsSaid :=
  OpenClaim.holds_of_wide 7 Try.f7 rfl rfl rfl rfl rfl rfl rfl ⟨rfl, rfl, rfl, rfl, rfl⟩ rfl rfl rfl rfl rfl (by kernel_rfl) Try.func7 (by kernel_rfl)
    (of_decide_eq_true (by kernel_rfl)) (by unfold Func.isWrapper; rw [if_neg (by decide +kernel)]; exact ⟨rfl, rfl⟩)
    (fun os started K en _ => motions_lifted os started K en)

end Go.Proofs.Ytoghphikfkdkmaa
