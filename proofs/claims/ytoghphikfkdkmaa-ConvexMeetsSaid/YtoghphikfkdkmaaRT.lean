/-
  Proved: the given statement ConvexMeetsSaid (Overlap, Separate and Inside return the results and errors of the specification for all pairs of polygons); no conditions.
-/
import Derived.Test.YtoghphikfkdkmaaR0
import Derived.Test.YtoghphikfkdkmaaV28
import Derived.Test.YtoghphikfkdkmaaRows
namespace Go.Proofs.Ytoghphikfkdkmaa
open Go Go.RowKit Go.ChangeShapes Go.WideShapes Go.ChangeAt Go.Proofs.Ytoghphikfkdkmaa.H Go.Proofs.Ytoghphikfkdkmaa.V
set_option linter.unusedVariables false

theorem ownT : ownKnob Try.prog.godebug = none := by kernel_rfl
theorem laidOutT : laidOutB Try.prog = true := by kernel_rfl

set_option maxRecDepth 100000 in
theorem meets_lifted
    (os : Os) (started : os.Started) (K : Type) (en : TypeId × Value → K) :
    ReturnsInHanded {} Try.checked os 5 .any (Rows.convexMeetsSpec.pre6 en Try.prog Try.f5 Rows.convexMeetsRow.domain false) (Rows.convexMeetsSpec.post en Try.prog Try.f5 false true false false) := by
  refine returnsInHanded_of_change (C := Try.checked) ownT started (by kernel_rfl) Try.func5
    (ChangeSpec.witness6 (enc := en) (C := Try.checked) false ⟨#[], #[.slice none 0 0, .slice none 0 0], []⟩ 8 (by kernel_rfl) (by kernel_rfl) (by kernel_rfl) (by kernel_rfl)) ?_
  intro W base args ds gs before hval0 hW hcnd _
  have hval : ∀ (j : Nat) t v, Try.f5.params[j]? = some t → args[j]? = some v → Value.okWide Try.prog W .any base t v := hval0
  have hW' := hW
  obtain ⟨p, q, hA0, hV, rfl, hfz, hnd⟩ := hW
  have hA : DataW.TrodAll en Try.prog W 0 (fun _ => true) true Try.f5.params.toList args.toList ds p := hA0
  rw [Try.params5] at hA hval
  obtain ⟨v0, v1, d0, d1, p0, p1, rfl, rfl, rfl, h0, h1⟩ := trodAll_two hA
  obtain ⟨rfl, rfl⟩ := trodVars_none hV
  obtain ⟨A0, n0, c0, ps0, rfl, e0, r0⟩ := open_vecs h0 (hval 0 22 v0 rfl rfl)
  obtain ⟨A1, n1, c1, ps1, rfl, e1, r1⟩ := open_vecs h1 (hval 1 22 v1 rfl rfl)
  clear hA0 hval0
  simp only [List.append_nil] at hW'
  refine (meets_ct A0 A1 ps0 ps1 n0 c0 n1 c1 W r0 r1 e0 e1).2.mono fun e W' ⟨v, L, he, hm, hv, hL⟩ => ?_
  subst he hv hL
  have hb' : Below W.heap.size W W' := hm.below
  have lt0 : ∀ x ∈ p0, x.block < W.heap.size := fun x hx => by simpa using hW'.lt x (by simp [hx])
  have lt1 : ∀ x ∈ p1, x.block < W.heap.size := fun x hx => by simpa using hW'.lt x (by simp [hx])
  exact ⟨_, rfl, post_of_mem hW' hm.nil (fun _ _ _ => trodAll_mk1 (shut_bool Try.underlying4 true)) (fun sp hsp => by
      exact trodAll_mk2 (WideElems.Trod_stays laidOutT (by kernel_rfl) (of_decide_eq_true (by kernel_rfl)) h0 (fun x hx => hb'.same (lt0 x hx)) (fun x hx => hsp x (by simp [hx])))
        (WideElems.Trod_stays laidOutT (by kernel_rfl) (of_decide_eq_true (by kernel_rfl)) h1 (fun x hx => hb'.same (lt1 x hx)) (fun x hx => hsp x (by simp [hx]))))
    (fun _ => rfl) (ok_one (by kernel_rfl) rfl (okWide_bool_mk Try.underlying4 true))⟩

theorem meets_row : Rows.ConvexMeetsSaid :=
  OpenClaim.holds_of_wide 5 Try.f5 rfl rfl rfl rfl rfl rfl rfl ⟨rfl, rfl, rfl, rfl, rfl⟩ rfl rfl rfl rfl rfl (by kernel_rfl) Try.func5 (by kernel_rfl)
    (of_decide_eq_true (by kernel_rfl)) (by unfold Func.isWrapper; rw [if_neg (by decide +kernel)]; exact ⟨rfl, rfl⟩)
    (fun os started K en _ => meets_lifted os started K en)

end Go.Proofs.Ytoghphikfkdkmaa
