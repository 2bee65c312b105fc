/-
  Proved: the given statement BlankDensestSaid (Densest returns the first grid, by index, A and B, that no vector collides in); no conditions.
-/
import Derived.Test.YtjmklbkcpjmcaaaR0
import Derived.Test.YtjmklbkcpjmcaaaBk
import Derived.Test.YtjmklbkcpjmcaaaRows
namespace Go.Proofs.Ytjmklbkcpjmcaaa
open Go Go.RowKit Go.ChangeShapes Go.WideShapes Go.ChangeAt Go.Proofs.Ytjmklbkcpjmcaaa.H Go.Proofs.Ytjmklbkcpjmcaaa.V
set_option linter.unusedVariables false

theorem ownT : ownKnob Try.prog.godebug = none := by kernel_rfl
theorem laidOutT : laidOutB Try.prog = true := by kernel_rfl

set_option maxRecDepth 100000 in
theorem densest_lifted
    (os : Os) (started : os.Started) (K : Type) (en : TypeId × Value → K) :
    ReturnsInHanded {} Try.checked os 3 .any (Rows.blankDensestSpec.pre6 en Try.prog Try.f3 Rows.blankDensestRow.domain false) (Rows.blankDensestSpec.post en Try.prog Try.f3 false true false false) := by
  refine returnsInHanded_of_change (C := Try.checked) ownT started (by kernel_rfl) Try.func3
    (ChangeSpec.witness6 (enc := en) (C := Try.checked) false ⟨#[], #[.slice none 0 0], []⟩ 8 (by kernel_rfl) (by kernel_rfl) (by kernel_rfl) (by kernel_rfl)) ?_
  intro W base args ds gs before hval0 hW hcnd _
  have hval : ∀ (j : Nat) t v, Try.f3.params[j]? = some t → args[j]? = some v → Value.okWide Try.prog W .any base t v := hval0
  have hW' := hW
  obtain ⟨p, q, hA0, hV, rfl, hfz, hnd⟩ := hW
  have hA : DataW.TrodAll en Try.prog W 0 (fun _ => true) true Try.f3.params.toList args.toList ds p := hA0
  rw [Try.params3] at hA hval
  obtain ⟨v0, d0, rfl, rfl, h0⟩ := trodAll_one hA
  have hp0 : p = p := rfl
  obtain ⟨rfl, rfl⟩ := trodVars_none hV
  obtain ⟨A0, n0, c0, ps0, rfl, e0, r0⟩ := open_vecs h0 (hval 0 22 v0 rfl rfl)
  clear hA0 hval0
  simp only [List.append_nil] at hW'
  refine (blankDensest_ct A0 ps0 n0 c0 W r0 e0).2.mono fun e W' ⟨v, L, he, hm, hv, hL⟩ => ?_
  subst he hv hL
  have hb' : Below W.heap.size W W' := hm.below
  have lt0 : ∀ x ∈ p, x.block < W.heap.size := fun x hx => by simpa using hW'.lt x (by simp [hx])
  exact ⟨_, rfl, post_of_mem hW' hm.nil (fun _ _ _ => trodAll_mk1 (shut_bool Try.underlying4 true)) (fun sp hsp => by
      exact trodAll_mk1 (WideElems.Trod_stays laidOutT (by kernel_rfl) (of_decide_eq_true (by kernel_rfl)) h0 (fun x hx => hb'.same (lt0 x hx)) (fun x hx => hsp x (by simp [hx]))))
    (fun _ => rfl) (ok_one (by kernel_rfl) rfl (okWide_bool_mk Try.underlying4 true))⟩

theorem densest_row : Rows.BlankDensestSaid :=
  OpenClaim.holds_of_wide 3 Try.f3 rfl rfl rfl rfl rfl rfl rfl ⟨rfl, rfl, rfl, rfl, rfl⟩ rfl rfl rfl rfl rfl (by kernel_rfl) Try.func3 (by kernel_rfl)
    (of_decide_eq_true (by kernel_rfl)) (by unfold Func.isWrapper; rw [if_neg (by decide +kernel)]; exact ⟨rfl, rfl⟩)
    (fun os started K en _ => densest_lifted os started K en)

end Go.Proofs.Ytjmklbkcpjmcaaa
