/-
  Nested polygons, plainly; the law ConvexNested.
-/
import Derived.Test.YtoghphikfkdkmaaP3
import Derived.Test.YtoghphikfkdkmaaG8
import Derived.Test.YtoghphikfkdkmaaV18
namespace Go.Proofs.Ytoghphikfkdkmaa.V
open Go Go.RowKit Go.Proofs.Ytoghphikfkdkmaa.H
set_option linter.unusedVariables false
set_option linter.unusedSimpArgs false

theorem points_pick {p : List Pt} (h : validF p = true) : PointsF p = (cI p, onC p, 0) ∧ cC p = cI p + onC p ∧ areaC p = cC p + cI p - 2 := by
  obtain ⟨h1, h2, h3, h4⟩ := validF_spec h
  obtain ⟨k1, k2⟩ := pick (valid_sr h) h3
  refine ⟨?_, by omega, by omega⟩
  unfold PointsF
  rw [if_pos h, show areaC p + 2 - onC p = 2 * cI p by omega, Int.mul_tdiv_cancel_left _ (by decide)]

theorem nested_spec (p q r : List Pt) (h : InsideF p q = (true, 0)) : NestedM p q r := by
  obtain ⟨vp, vq, hin⟩ := inside_spec h
  have sp := valid_sr vp
  have sq := valid_sr vq
  obtain ⟨a1, a2, a3⟩ := points_pick vp
  obtain ⟨b1, b2, b3⟩ := points_pick vq
  have c1 := cC_le (p := p) (q := q) (fun x hx => (sub_in sp sq hin x).1 hx)
  have c2 := cI_le (p := p) (q := q) (fun x hx => (sub_in sp sq hin x).2 hx)
  refine ⟨by rw [AreaF, if_pos vp], by rw [AreaF, if_pos vq], by rw [a1], by rw [b1], ?_, ?_, ?_, fun h1 h2 => nested_sum h h1 h2⟩
  · rw [AreaF, AreaF, if_pos vp, if_pos vq]; simp only; omega
  · rw [a1, b1]; exact c2
  · rw [a1, b1]; simp only; omega

theorem convexNested_ct (A1 A2 A3 : Option Addr) (p q r : List Pt) (n1 c1 n2 c2 n3 c3 : Nat) (w : World) (hp : Rd enc 2 w A1 p) (hq : Rd enc 2 w A2 q) (hr : Rd enc 2 w A3 r) (hn1 : n1 = p.length) (hn2 : n2 = q.length) (hn3 : n3 = r.length) :
    Ct P 3 #[.slice A1 n1 c1, .slice A2 n2 c2, .slice A3 n3 c3] w [] (fun v L => v = .bool true ∧ L = []) :=
  nested_ct nested_spec A1 A2 A3 p q r n1 c1 n2 c2 n3 c3 w hp hq hr hn1 hn2 hn3

end Go.Proofs.Ytoghphikfkdkmaa.V
