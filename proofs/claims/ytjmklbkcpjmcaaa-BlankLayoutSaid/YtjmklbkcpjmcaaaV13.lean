/-
  Overlap, Separate, Inside.
-/
import Derived.Test.YtjmklbkcpjmcaaaV12
namespace Go.Proofs.Ytjmklbkcpjmcaaa.V
open Go Go.RowKit Go.Proofs.Ytjmklbkcpjmcaaa.H
set_option linter.unusedVariables false
set_option linter.unusedSimpArgs false

def OverlapF (p q : List Pt) : Bool × Int := if validF p && validF q then (!(partedF p q).2, 0) else (false, 2)
def SeparateF (p q : List Pt) : Pt × Int := if validF p && validF q then (if (partedF p q).2 then ((partedF p q).1, 0) else ((0, 0), 10)) else ((0, 0), 2)
def InsideF (p q : List Pt) : Bool × Int := if validF p && validF q then (!p.any (fun v => decide (placeF q v < 0)), 0) else (false, 2)

theorem some_of {A : Option Addr} {p : List Pt} {w : World} (hp : Rd enc 2 w A p) (h : 0 < p.length) : ∃ a, A = some a := by
  obtain ⟨a, h, _⟩ := hp 0 h
  exact ⟨a, h⟩

theorem Overlap_ct (A1 A2 : Option Addr) (p q : List Pt) (n1 c1 n2 c2 : Nat) (w : World) (hp : Rd enc 2 w A1 p) (hq : Rd enc 2 w A2 q) (hn1 : n1 = p.length) (hn2 : n2 = q.length) (hl1 : p.length ≤ 1000000) (hl2 : q.length ≤ 1000000) :
    Ct P 33 #[.slice A1 n1 c1, .slice A2 n2 c2] w [] (fun r L => r = .tuple #[.bool (OverlapF p q).1, int (OverlapF p q).2] ∧ L = []) := by
  subst hn1 hn2
  refine Ct.of_body (rs := [.tmp 4, .tmp 5]) (N := 24) (L := []) Try.func33 rfl rfl rfl (by kernel_rfl) rfl (Mem.refl w) ?_
  refine HW.seq (HW.region [(0, .st), (1, .st)] rfl rfl ?_)
  refine Plan.assign (v := .bool _) rfl rfl rfl ?_
  refine Plan.assign (v := .int _ _) rfl rfl rfl ?_
  refine Plan.done ?_
  refine HW.seq ?_
  refine HW.seq (HW.region [(0, .st), (1, .ef), (2, .st), (3, .st), (4, .st), (5, .ef), (6, .st), (7, .st)] rfl rfl ?_)
  refine Plan.move (v := .slice _ _ _) rfl rfl rfl ?_
  refine Plan.callF [] 0 rfl rfl rfl (.inl rfl) (by simp) (fun w hm => Valid_ct A1 p c1 _ w (hp.mem hm) rfl (by omega)) ?_   -- tinplate/convex.Valid
  rintro v Ln ⟨rfl, rfl⟩
  refine Plan.splitB (fun h9 => ?_) (fun h9 => ?_)
  · skip
    obtain ⟨v1, v2, v3, v4⟩ := validF_spec h9
    refine Plan.not rfl rfl rfl ?_
    refine Plan.move (v := .bool _) rfl rfl rfl ?_
    refine Plan.move (v := .slice _ _ _) rfl rfl rfl ?_
    refine Plan.callF [] 0 rfl rfl rfl (.inl rfl) (by simp) (fun w hm => Valid_ct A2 q c2 _ w (hq.mem hm) rfl (by omega)) ?_   -- tinplate/convex.Valid
    rintro v Ln ⟨rfl, rfl⟩
    refine Plan.splitB (fun h13 => ?_) (fun h13 => ?_)
    · skip
      obtain ⟨u1, u2, u3, u4⟩ := validF_spec h13
      have hF : OverlapF p q = (!(partedF p q).2, 0) := by rw [OverlapF, if_pos (by rw [h9, h13]; rfl)]
      obtain ⟨a1, rfl⟩ := some_of hp (by omega)
      obtain ⟨a2, rfl⟩ := some_of hq (by omega)
      refine Plan.not rfl rfl rfl ?_
      refine Plan.pick (v := .bool _) rfl rfl rfl rfl ?_
      refine Plan.done ?_
      refine HW.cond_false rfl ?_
      refine HW.skip ?_
      refine HW.seq (HW.region [(0, .st), (1, .st), (2, .ef), (3, .st), (4, .st), (5, .st), (6, .al), (7, .ef), (8, .st)] rfl rfl ?_)
      refine Plan.move (v := .slice _ _ _) rfl rfl rfl ?_
      refine Plan.move (v := .slice _ _ _) rfl rfl rfl ?_
      refine Plan.callF [] 0 rfl rfl rfl (.inl rfl) (by simp) (fun w hm => parted_ct a1 a2 p q _ c1 _ c2 w (hp.mem hm) (hq.mem hm) rfl rfl (by omega) (by omega) hl1 hl2 (fun v hv => (v3 v hv).mono (by omega)) (fun v hv => (u3 v hv).mono (by omega))) ?_   -- tinplate/convex.parted
      rintro v Ln ⟨rfl, rfl⟩
      refine Plan.move (v := .tuple _) rfl rfl rfl ?_
      refine Plan.extract (v := .agg _) rfl rfl rfl rfl ?_
      refine Plan.extract (v := .bool _) rfl rfl rfl rfl ?_
      refine Plan.alloc rfl zerV fun b6 => ?_
      refine Plan.storeA 0 rfl rfl hDn sizV rfl rfl rfl rfl rfl rfl ?_
      refine Plan.assign (v := .bool _) rfl rfl rfl ?_
      refine Plan.done ?_
      refine HW.seq (HW.region [(0, .st), (1, .st), (2, .st), (3, .st)] rfl rfl ?_)
      refine Plan.move (v := .bool _) rfl rfl rfl ?_
      refine Plan.not rfl rfl rfl ?_
      refine Plan.assign (v := .bool _) rfl rfl rfl ?_
      refine Plan.assign (v := .int _ _) rfl rfl rfl ?_
      refine Plan.done ?_
      exact HW.ret ⟨rfl, _, [], .tmp rfl (.tmp rfl .nil), List.nil_sublist _, (by rw [hF]; rfl), rfl⟩
    · skip
      have hF : OverlapF p q = (false, 2) := by rw [OverlapF, if_neg (by rw [h9, h13]; decide)]
      refine Plan.not rfl rfl rfl ?_
      refine Plan.pick (v := .bool _) rfl rfl rfl rfl ?_
      refine Plan.done ?_
      refine HW.cond_true rfl ?_
      refine HW.seq (HW.region [(0, .st), (1, .st)] rfl rfl ?_)
      refine Plan.assign (v := .bool _) rfl rfl rfl ?_
      refine Plan.assign (v := .int _ _) rfl rfl rfl ?_
      refine Plan.done ?_
      exact HW.ret ⟨rfl, _, [], .tmp rfl (.tmp rfl .nil), List.nil_sublist _, (by rw [hF]; rfl), rfl⟩
  · skip
    have hF : OverlapF p q = (false, 2) := by rw [OverlapF, if_neg (by rw [h9]; simp)]
    refine Plan.not rfl rfl rfl ?_
    refine Plan.move (v := .bool _) rfl rfl rfl ?_
    refine Plan.no rfl rfl ?_
    refine Plan.noE rfl rfl ?_
    refine Plan.no rfl rfl ?_
    refine Plan.pick (v := .bool _) rfl rfl rfl rfl ?_
    refine Plan.done ?_
    refine HW.cond_true rfl ?_
    refine HW.seq (HW.region [(0, .st), (1, .st)] rfl rfl ?_)
    refine Plan.assign (v := .bool _) rfl rfl rfl ?_
    refine Plan.assign (v := .int _ _) rfl rfl rfl ?_
    refine Plan.done ?_
    exact HW.ret ⟨rfl, _, [], .tmp rfl (.tmp rfl .nil), List.nil_sublist _, (by rw [hF]; rfl), rfl⟩

end Go.Proofs.Ytjmklbkcpjmcaaa.V
