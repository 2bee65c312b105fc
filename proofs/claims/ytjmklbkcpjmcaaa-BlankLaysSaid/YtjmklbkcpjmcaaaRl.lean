/-
  Proved: the given statement BlankLaysSaid (Lay returns the largest layout of the least offset, or the error of the specification; results are new memory); no conditions.
-/
import Derived.Test.YtjmklbkcpjmcaaaR0
import Derived.Test.YtjmklbkcpjmcaaaBw
import Derived.Test.YtjmklbkcpjmcaaaRows
namespace Go.Proofs.Ytjmklbkcpjmcaaa
open Go Go.RowKit Go.ChangeShapes Go.WideShapes Go.ChangeAt Go.Proofs.Ytjmklbkcpjmcaaa.H Go.Proofs.Ytjmklbkcpjmcaaa.V
set_option linter.unusedVariables false

theorem ownT : ownKnob Try.prog.godebug = none := by kernel_rfl
theorem laidOutT : laidOutB Try.prog = true := by kernel_rfl

set_option maxRecDepth 100000 in
theorem lays_lifted
    (os : Os) (started : os.Started) (K : Type) (en : TypeId × Value → K) :
    ReturnsInHanded {} Try.checked os 9 .any (Rows.blankLaysSpec.pre6 en Try.prog Try.f9 Rows.blankLaysRow.domain false) (Rows.blankLaysSpec.post en Try.prog Try.f9 false true false false) := by
  refine returnsInHanded_of_change (C := Try.checked) ownT started (by kernel_rfl) Try.func9
    (ChangeSpec.witness6 (enc := en) (C := Try.checked) false ⟨#[], #[.slice none 0 0, .agg #[.int .i64 0, .int .i64 0, .int .i64 0], .int .i64 0, .int .i64 0], []⟩ 8 (by kernel_rfl) (by kernel_rfl) (by kernel_rfl) (by kernel_rfl)) ?_
  intro W base args ds gs before hval0 hW hcnd _
  have hval : ∀ (j : Nat) t v, Try.f9.params[j]? = some t → args[j]? = some v → Value.okWide Try.prog W .any base t v := hval0
  have hW' := hW
  obtain ⟨p, q, hA0, hV, rfl, hfz, hnd⟩ := hW
  have hA : DataW.TrodAll en Try.prog W 0 (fun _ => true) true Try.f9.params.toList args.toList ds p := hA0
  rw [Try.params9] at hA hval
  obtain ⟨v0, v1, v2, v3, d0, d1, d2, d3, p0, p1, p2, p3, rfl, rfl, rfl, h0, h1, h2, h3⟩ := trodAll_four' hA
  obtain ⟨rfl, rfl⟩ := trodVars_none hV
  obtain ⟨A0, n0, c0, ps0, rfl, e0, r0⟩ := open_vecs h0 (hval 0 22 v0 rfl rfl)
  have h1k := h1
  obtain ⟨x10, x11, x12, y10, y11, y12, m1, rfl, hd1, hp1, hy10, hy11, hy12⟩ := Go.Joins.open_agg3 Try.underlying26 (by kernel_rfl) (by kernel_rfl) (hval 1 26 v1 rfl rfl) h1
  obtain ⟨xa1, ea1, -, wx1⟩ := DataW.trod_int Try.underlying3 hy10
  obtain ⟨xb1, eb1, -, wy1⟩ := DataW.trod_int Try.underlying3 hy11
  obtain ⟨xc1, ec1, -, wz1⟩ := DataW.trod_int Try.underlying3 hy12
  simp at ea1 eb1 ec1
  subst ea1 eb1 ec1
  obtain ⟨z2, hz2, -, -, wz2⟩ := open_int Try.underlying3 (hval 2 3 v2 rfl rfl) h2
  subst hz2
  obtain ⟨z3, hz3, -, -, wz3⟩ := open_int Try.underlying3 (hval 3 3 v3 rfl rfl) h3
  subst hz3
  clear hA0 hval0
  simp only [List.append_nil] at hW'
  refine (blankLays_ct A0 ps0 xa1 xb1 xc1 z2 z3 n0 c0 W r0 e0).2.mono fun e W' ⟨v, L, he, hm, hv, hL⟩ => ?_
  subst he hv hL
  have hb' : Below W.heap.size W W' := hm.below
  have lt0 : ∀ x ∈ p0, x.block < W.heap.size := fun x hx => by simpa using hW'.lt x (by simp [hx])
  have lt1 : ∀ x ∈ p1, x.block < W.heap.size := fun x hx => by simpa using hW'.lt x (by simp [hx])
  have lt2 : ∀ x ∈ p2, x.block < W.heap.size := fun x hx => by simpa using hW'.lt x (by simp [hx])
  have lt3 : ∀ x ∈ p3, x.block < W.heap.size := fun x hx => by simpa using hW'.lt x (by simp [hx])
  exact ⟨_, rfl, post_of_mem hW' hm.nil (fun _ _ _ => trodAll_mk1 (shut_bool Try.underlying4 true)) (fun sp hsp => by
      exact trodAll_mk4' (WideElems.Trod_stays laidOutT (by kernel_rfl) (of_decide_eq_true (by kernel_rfl)) h0 (fun x hx => hb'.same (lt0 x hx)) (fun x hx => hsp x (by simp [hx])))
        (WideElems.Trod_stays laidOutT (by kernel_rfl) (of_decide_eq_true (by kernel_rfl)) h1k (fun x hx => hb'.same (lt1 x hx)) (fun x hx => hsp x (by simp [hx])))
        (WideElems.Trod_stays laidOutT (by kernel_rfl) (of_decide_eq_true (by kernel_rfl)) h2 (fun x hx => hb'.same (lt2 x hx)) (fun x hx => hsp x (by simp [hx])))
        (WideElems.Trod_stays laidOutT (by kernel_rfl) (of_decide_eq_true (by kernel_rfl)) h3 (fun x hx => hb'.same (lt3 x hx)) (fun x hx => hsp x (by simp [hx]))))
    (fun _ => rfl) (ok_one (by kernel_rfl) rfl (okWide_bool_mk Try.underlying4 true))⟩

theorem lays_row : Rows.BlankLaysSaid :=
  OpenClaim.holds_of_wide 9 Try.f9 rfl rfl rfl rfl rfl rfl rfl ⟨rfl, rfl, rfl, rfl, rfl⟩ rfl rfl rfl rfl rfl (by kernel_rfl) Try.func9 (by kernel_rfl)
    (of_decide_eq_true (by kernel_rfl)) (by unfold Func.isWrapper; rw [if_neg (by decide +kernel)]; exact ⟨rfl, rfl⟩)
    (fun os started K en _ => lays_lifted os started K en)

end Go.Proofs.Ytjmklbkcpjmcaaa
