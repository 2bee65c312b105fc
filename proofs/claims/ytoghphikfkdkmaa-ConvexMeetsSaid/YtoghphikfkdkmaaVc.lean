/-
  copied.
-/
import Derived.Test.YtoghphikfkdkmaaV15
namespace Go.Proofs.Ytoghphikfkdkmaa.V
open Go Go.RowKit Go.Proofs.Ytoghphikfkdkmaa.H
set_option linter.unusedVariables false
set_option linter.unusedSimpArgs false

theorem copied_ct (A : Option Addr) (ps : List Pt) (n c : Nat) (w : World) (hp : Rd enc 2 w A ps) (hn : n = ps.length) (hlen : ps.length ≤ 1000000) :
    Ct P 14 #[.slice A n c] w [] (fun r L => ∃ o c', r = slv o ps.length c' ∧ L = [ownV o c' ps]) := by
  subst hn
  refine Ct.of_body (rs := [.tmp 2]) (N := 6) (L := []) Try.func14 rfl rfl rfl (by kernel_rfl) rfl (Mem.refl w) ?_
  refine HW.seq (HW.region [(0, .st)] rfl rfl ?_)
  refine Plan.assign (v := .slice _ _ _) rfl rfl rfl ?_
  refine Plan.done ?_
  refine HW.seq (HW.region [(0, .ef), (1, .st), (2, .ef), (3, .st)] rfl rfl ?_)
  refine Plan.buildOwn (xs := []) (enc := enc) (sz := 2) rfl rfl rfl (bs0) rfl rfl (by simp) rfl fun b3 => ?_
  refine Plan.move (v := .slice _ _ _) rfl rfl rfl ?_
  cases A with
  | none =>
    have h0 : ps = [] := by
      cases ps with
      | nil => rfl
      | cons x l => obtain ⟨a, e, _⟩ := hp 0 (by simp); cases e
    subst h0
    refine Plan.appendNil rfl rfl rfl slV ⟨_, rfl⟩ rfl rfl (Nat.le_refl _) ?_
    refine Plan.assign (v := .slice _ _ _) rfl rfl rfl ?_
    refine Plan.done ?_
    exact HW.ret ⟨rfl, _, [ownV (some b3) 0 []], .tmp rfl .nil, List.Sublist.refl _, some b3, 0, rfl, rfl⟩
  | some a =>
    refine Plan.append (enc := enc) (sz := 2) (ys := ps) 0 rfl rfl hDn slV infV rfl (by decide) enc2 enc1 rfl rfl rfl rfl rfl (Sees.rdAll enc2 hp rfl) (by simp; omega) (by simp; omega) fun o' c' => ?_
    refine Plan.assign (v := .slice _ _ _) rfl rfl rfl ?_
    refine Plan.done ?_
    exact HW.ret ⟨rfl, _, [ownV o' c' ps], .tmp rfl .nil, List.Sublist.refl _, o', c', by simp; rfl, rfl⟩

end Go.Proofs.Ytoghphikfkdkmaa.V
