/-
  Sum.
-/
import Derived.Test.YtjmklbkcpjmcaaaV11
namespace Go.Proofs.Ytjmklbkcpjmcaaa.V
open Go Go.RowKit Go.Proofs.Ytjmklbkcpjmcaaa.H
set_option linter.unusedVariables false
set_option linter.unusedSimpArgs false


theorem sumF_len (p q : List Pt) : (sumF p q).length ≤ p.length + q.length := sumR_len p q _ _ _

theorem Sum_ct (A1 A2 : Option Addr) (p q : List Pt) (n1 c1 n2 c2 : Nat) (w : World) (hp : Rd enc 2 w A1 p) (hq : Rd enc 2 w A2 q) (hn1 : n1 = p.length) (hn2 : n2 = q.length) (hl1 : p.length ≤ 1000000) (hl2 : q.length ≤ 1000000) :
    Ct P 40 #[.slice A1 n1 c1, .slice A2 n2 c2] w [] (fun r L => ∃ o c', r = .tuple #[slv o (SumF p q).1.length c', int (SumF p q).2] ∧ L = [ownV o c' (SumF p q).1]) := by
  subst hn1 hn2
  have hFl := sumF_len p q
  refine Ct.of_body (rs := [.tmp 4, .tmp 5]) (N := 20) (L := []) Try.func40 rfl rfl rfl (by kernel_rfl) rfl (Mem.refl w) ?_
  refine HW.seq (HW.region [(0, .st), (1, .st)] rfl rfl ?_)
  refine Plan.assign (v := .slice _ _ _) rfl rfl rfl ?_
  refine Plan.assign (v := .int _ _) rfl rfl rfl ?_
  refine Plan.done ?_
  refine HW.seq ?_
  refine HW.seq (HW.region [(0, .st), (1, .ef), (2, .st), (3, .st), (4, .st), (5, .ef), (6, .st), (7, .st)] rfl rfl ?_)
  refine Plan.move (v := .slice _ _ _) rfl rfl rfl ?_
  refine Plan.callF [] 0 rfl rfl rfl (.inl rfl) (by simp) (fun w hm => Valid_ct A1 p c1 _ w (hp.mem hm) rfl (by omega)) ?_   -- tinplate/convex.Valid
  rintro v Ln ⟨rfl, rfl⟩
  refine Plan.splitB (fun h7 => ?_) (fun h7 => ?_)
  · skip
    obtain ⟨v1, v2, v3, v4⟩ := validF_spec h7
    refine Plan.not rfl rfl rfl ?_
    refine Plan.move (v := .bool _) rfl rfl rfl ?_
    refine Plan.move (v := .slice _ _ _) rfl rfl rfl ?_
    refine Plan.callF [] 0 rfl rfl rfl (.inl rfl) (by simp) (fun w hm => Valid_ct A2 q c2 _ w (hq.mem hm) rfl (by omega)) ?_   -- tinplate/convex.Valid
    rintro v Ln ⟨rfl, rfl⟩
    refine Plan.splitB (fun h11 => ?_) (fun h11 => ?_)
    · skip
      obtain ⟨u1, u2, u3, u4⟩ := validF_spec h11
      have hF : SumF p q = (madeL (sumF p q), madeE (sumF p q)) := by rw [SumF, if_pos (by rw [h7, h11]; rfl)]
      obtain ⟨a1, e1, _⟩ := hp 0 (by omega)
      subst e1
      obtain ⟨a2, e2, _⟩ := hq 0 (by omega)
      subst e2
      refine Plan.not rfl rfl rfl ?_
      refine Plan.pick (v := .bool _) rfl rfl rfl rfl ?_
      refine Plan.done ?_
      refine HW.cond_false rfl ?_
      refine HW.skip ?_
      refine HW.seq (HW.region [(0, .st), (1, .st), (2, .ef), (3, .ef), (4, .st), (5, .st), (6, .st), (7, .st)] rfl rfl ?_)
      refine Plan.move (v := .slice _ _ _) rfl rfl rfl ?_
      refine Plan.move (v := .slice _ _ _) rfl rfl rfl ?_
      refine Plan.callF [] 0 rfl rfl rfl (.inl rfl) (by simp) (fun w hm => sum_ct a1 a2 p q _ c1 _ c2 w (hp.mem hm) (hq.mem hm) rfl rfl (by omega) (by omega) hl1 hl2 (fun v hv => (v3 v hv).mono (by omega)) (fun v hv => (u3 v hv).mono (by omega))) ?_   -- tinplate/convex.sum
      rintro v Ln ⟨o, c', rfl, rfl⟩
      refine Plan.callF [] 0 rfl rfl rfl (.inl rfl) (by simp) (fun w hm => made_ct (at0 o) (sumF p q) _ c' w (Res.own_rd enc2 (hm.res _ List.mem_cons_self)) rfl (by omega)) ?_   -- tinplate/convex.made
      rintro v Ln ⟨rfl, rfl⟩
      obtain ⟨o2, c3, he, hE⟩ := made_out ⟨P, none, 20, w, []⟩ o c' (sumF p q) []
      rw [he]
      refine Plan.extract (v := .slice _ _ _) rfl rfl rfl rfl ?_
      refine Plan.extract (v := .int _ _) rfl rfl rfl rfl ?_
      refine Plan.assign (v := .slice _ _ _) rfl rfl rfl ?_
      refine Plan.assign (v := .int _ _) rfl rfl rfl ?_
      refine Plan.done ?_
      refine HW.ent ?_ hE
      exact HW.ret ⟨rfl, _, [ownV o2 c3 (madeL (sumF p q))], .tmp rfl (.tmp rfl .nil), .cons_cons _ (List.nil_sublist _), o2, c3, (by rw [hF]; rfl), by rw [hF]⟩
    · skip
      have hF : SumF p q = ([], 2) := by rw [SumF, if_neg (by rw [h7, h11]; decide)]
      refine Plan.not rfl rfl rfl ?_
      refine Plan.pick (v := .bool _) rfl rfl rfl rfl ?_
      refine Plan.done ?_
      refine HW.cond_true rfl ?_
      refine HW.seq (HW.region [(0, .st), (1, .st)] rfl rfl ?_)
      refine Plan.assign (v := .slice _ _ _) rfl rfl rfl ?_
      refine Plan.assign (v := .int _ _) rfl rfl rfl ?_
      refine Plan.done ?_
      refine HW.addNil enc 2 52 ?_
      exact HW.ret ⟨rfl, _, [ownV none 0 []], .tmp rfl (.tmp rfl .nil), .cons_cons _ (List.nil_sublist _), none, 0, (by rw [hF]; rfl), by rw [hF]⟩
  · skip
    have hF : SumF p q = ([], 2) := by rw [SumF, if_neg (by rw [h7]; simp)]
    refine Plan.not rfl rfl rfl ?_
    refine Plan.move (v := .bool _) rfl rfl rfl ?_
    refine Plan.no rfl rfl ?_
    refine Plan.noE rfl rfl ?_
    refine Plan.no rfl rfl ?_
    refine Plan.pick (v := .bool _) rfl rfl rfl rfl ?_
    refine Plan.done ?_
    refine HW.cond_true rfl ?_
    refine HW.seq (HW.region [(0, .st), (1, .st)] rfl rfl ?_)
    refine Plan.assign (v := .slice _ _ _) rfl rfl rfl ?_
    refine Plan.assign (v := .int _ _) rfl rfl rfl ?_
    refine Plan.done ?_
    refine HW.addNil enc 2 52 ?_
    exact HW.ret ⟨rfl, _, [ownV none 0 []], .tmp rfl (.tmp rfl .nil), .cons_cons _ (List.nil_sublist _), none, 0, (by rw [hF]; rfl), by rw [hF]⟩

end Go.Proofs.Ytjmklbkcpjmcaaa.V
