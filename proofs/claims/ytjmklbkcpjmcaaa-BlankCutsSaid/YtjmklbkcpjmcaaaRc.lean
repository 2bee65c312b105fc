/-
  Proved: the given statement BlankCutsSaid (Best returns the greatest worth and the plan of the rule, held against all cuts of all rectangles, or the error of the specification); no conditions.
-/
import Derived.Test.YtjmklbkcpjmcaaaR0
import Derived.Test.YtjmklbkcpjmcaaaBq
import Derived.Test.YtjmklbkcpjmcaaaRows
namespace Go.Proofs.Ytjmklbkcpjmcaaa
open Go Go.RowKit Go.ChangeShapes Go.WideShapes Go.ChangeAt Go.Proofs.Ytjmklbkcpjmcaaa.H Go.Proofs.Ytjmklbkcpjmcaaa.V
set_option linter.unusedVariables false

theorem ownT : ownKnob Try.prog.godebug = none := by kernel_rfl
theorem laidOutT : laidOutB Try.prog = true := by kernel_rfl

set_option maxRecDepth 100000 in
theorem cuts_lifted
    (os : Os) (started : os.Started) (K : Type) (en : TypeId × Value → K) :
    ReturnsInHanded {} Try.checked os 4 .any (Rows.blankCutsSpec.pre6 en Try.prog Try.f4 Rows.blankCutsRow.domain false) (Rows.blankCutsSpec.post en Try.prog Try.f4 false true false false) := by
  refine returnsInHanded_of_change (C := Try.checked) ownT started (by kernel_rfl) Try.func4
    (ChangeSpec.witness6 (enc := en) (C := Try.checked) false ⟨#[], #[.int .i64 0, .int .i64 0, .slice none 0 0], []⟩ 8 (by kernel_rfl) (by kernel_rfl) (by kernel_rfl) (by kernel_rfl)) ?_
  intro W base args ds gs before hval0 hW hcnd _
  have hval : ∀ (j : Nat) t v, Try.f4.params[j]? = some t → args[j]? = some v → Value.okWide Try.prog W .any base t v := hval0
  have hW' := hW
  obtain ⟨p, q, hA0, hV, rfl, hfz, hnd⟩ := hW
  have hA : DataW.TrodAll en Try.prog W 0 (fun _ => true) true Try.f4.params.toList args.toList ds p := hA0
  rw [Try.params4] at hA hval
  obtain ⟨v0, v1, v2, d0, d1, d2, p0, p1, p2, rfl, rfl, rfl, h0, h1, h2⟩ := trodAll_three hA
  obtain ⟨rfl, rfl⟩ := trodVars_none hV
  obtain ⟨z0, hz0, -, -, wz0⟩ := open_int Try.underlying3 (hval 0 3 v0 rfl rfl) h0
  subst hz0
  obtain ⟨z1, hz1, -, -, wz1⟩ := open_int Try.underlying3 (hval 1 3 v1 rfl rfl) h1
  subst hz1
  obtain ⟨A2, n2, c2, ps2, rfl, e2, r2⟩ := open_items h2 (hval 2 30 v2 rfl rfl)
  clear hA0 hval0
  simp only [List.append_nil] at hW'
  refine (blankCuts_ct A2 z0 z1 ps2 n2 c2 W r2 e2).2.mono fun e W' ⟨v, L, he, hm, hv, hL⟩ => ?_
  subst he hv hL
  have hb' : Below W.heap.size W W' := hm.below
  have lt0 : ∀ x ∈ p0, x.block < W.heap.size := fun x hx => by simpa using hW'.lt x (by simp [hx])
  have lt1 : ∀ x ∈ p1, x.block < W.heap.size := fun x hx => by simpa using hW'.lt x (by simp [hx])
  have lt2 : ∀ x ∈ p2, x.block < W.heap.size := fun x hx => by simpa using hW'.lt x (by simp [hx])
  exact ⟨_, rfl, post_of_mem hW' hm.nil (fun _ _ _ => trodAll_mk1 (shut_bool Try.underlying4 true)) (fun sp hsp => by
      rw [List.append_assoc]
      exact trodAll_mk3 (WideElems.Trod_stays laidOutT (by kernel_rfl) (of_decide_eq_true (by kernel_rfl)) h0 (fun x hx => hb'.same (lt0 x hx)) (fun x hx => hsp x (by simp [hx])))
        (WideElems.Trod_stays laidOutT (by kernel_rfl) (of_decide_eq_true (by kernel_rfl)) h1 (fun x hx => hb'.same (lt1 x hx)) (fun x hx => hsp x (by simp [hx])))
        (WideElems.Trod_stays laidOutT (by kernel_rfl) (of_decide_eq_true (by kernel_rfl)) h2 (fun x hx => hb'.same (lt2 x hx)) (fun x hx => hsp x (by simp [hx]))))
    (fun _ => rfl) (ok_one (by kernel_rfl) rfl (okWide_bool_mk Try.underlying4 true))⟩

theorem cuts_row : Rows.BlankCutsSaid :=
  OpenClaim.holds_of_wide 4 Try.f4 rfl rfl rfl rfl rfl rfl rfl ⟨rfl, rfl, rfl, rfl, rfl⟩ rfl rfl rfl rfl rfl (by kernel_rfl) Try.func4 (by kernel_rfl)
    (of_decide_eq_true (by kernel_rfl)) (by unfold Func.isWrapper; rw [if_neg (by decide +kernel)]; exact ⟨rfl, rfl⟩)
    (fun os started K en _ => cuts_lifted os started K en)

end Go.Proofs.Ytjmklbkcpjmcaaa
