/-
  What the law ConvexMotions claims of polygons.
-/
import Derived.Test.YtjmklbkcpjmcaaaV13
namespace Go.Proofs.Ytjmklbkcpjmcaaa.V
open Go Go.RowKit Go.Proofs.Ytjmklbkcpjmcaaa.H
set_option linter.unusedVariables false
set_option linter.unusedSimpArgs false

/-- two pairs of polygons with the same areas, points, and ways to lie -/
structure AlikeM (p q a b : List Pt) : Prop where
  a1 : (AreaF p).2 = 0
  a2 : (AreaF a).2 = 0
  b1 : (PointsF p).2.2 = 0
  b2 : (PointsF a).2.2 = 0
  area : (AreaF p).1 = (AreaF a).1
  inn : (PointsF p).1 = (PointsF a).1
  on : (PointsF p).2.1 = (PointsF a).2.1
  o1 : (OverlapF p q).2 = 0
  o2 : (OverlapF a b).2 = 0
  i1 : (InsideF p q).2 = 0
  i2 : (InsideF a b).2 = 0
  oe : (OverlapF a b).1 = (OverlapF p q).1
  ie : (InsideF a b).1 = (InsideF p q).1

end Go.Proofs.Ytjmklbkcpjmcaaa.V
