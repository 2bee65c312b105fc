/-
  Rows: slices of cuts are opened.
-/
import Derived.Test.YtjmklbkcpjmcaaaR1
namespace Go.Proofs.Ytjmklbkcpjmcaaa.V
open Go Go.RowKit Go.Proofs.Ytjmklbkcpjmcaaa.H Go.ChangeShapes Go.WideShapes Go.ChangeAt Go.Proofs.Ytjmklbkcpjmcaaa.LL
set_option linter.unusedVariables false
set_option linter.unusedSimpArgs false

set_option maxRecDepth 100000 in
theorem open_cuts {K : Type} {en : TypeId × Value → K} {W : World} {base : Nat} {v : Value} {d : DataW K} {p : List MemPlace} (h : DataW.Trod en P W 0 (fun _ => true) true 32 v d p)
    (hok : Value.okWide P W .any base 32 v) : ∃ (A : Option Addr) (n c : Nat) (l : List Ct2), v = .slice A n c ∧ n = l.length ∧ Rd enc 2 W A l ∧ n ≤ c := by
  obtain ⟨a0, len, cap, rfl⟩ := okWide_slice slapiCut hok
  obtain ⟨fuel, hf⟩ := h
  have ce : P.cellsOf 69 = 2 := by kernel_rfl
  have c1 : P.cellsOf 3 = 1 := by kernel_rfl
  rcases Go.Deep.open_slice slapiCut hf with ⟨hcs, hx⟩ | ⟨a, len', cap', m, n, D, Pl, hcs, hb, hl, hm, hmm, hxe, hx⟩
  · simp [Value.cells] at hcs
    obtain ⟨rfl, rfl, rfl⟩ := hcs
    exact ⟨none, 0, 0, [], rfl, rfl, Rd.nil, Nat.le_refl _⟩
  · simp [Value.cells] at hcs
    obtain ⟨rfl, rfl, rfl⟩ := hcs
    have each : ∀ i, i < m → ∃ q : Ct2, W.cell? (a.add (i * 2)) = some (int q.1) ∧ W.cell? (a.add (i * 2 + 1)) = some (int q.2) := by
      intro i hi
      obtain ⟨cs', h1, h2⟩ := hx i hi
      rw [ce] at h1
      obtain ⟨_, hlen, hcell⟩ := World.cells?_some h1
      obtain ⟨xs, k, hk, hxy, _, hxl, hf'⟩ := DataW.trod_struct Try.underlying69 h2
      match xs, hxl, cs', hlen with
      | [y0, y1], _, [v0, v1], _ =>
        have g0 := hf' 0 _ rfl
        have g1 := hf' 1 _ rfl
        simp [c1] at g0 g1
        have e0 := hcell 0 (by omega)
        have e1 := hcell 1 (by omega)
        rw [add_add] at e0 e1
        obtain ⟨x0, hx0, _, _⟩ := DataW.trod_int Try.underlying3 g0
        obtain ⟨x1, hx1, _, _⟩ := DataW.trod_int Try.underlying3 g1
        injection hx0 with hx0
        injection hx1 with hx1
        subst hx0 hx1
        exact ⟨(x0, x1), by simpa using e0, by simpa using e1⟩
    obtain ⟨q, hq⟩ := Go.Deep.choose_lt each
    refine ⟨some a, len, cap, (List.range len).map q, rfl, by simp, fun i hi => ⟨a, rfl, ?_⟩, hl⟩
    have hi' : i < len := by simpa using hi
    have him : i < m := by rw [hmm]; split <;> omega
    obtain ⟨h0, h1⟩ := hq i him
    intro j u hu
    simp only [List.getElem_map, List.getElem_range, enc] at hu
    rw [H.add_add]
    match j, hu with
    | 0, hu => rw [Nat.add_zero, h0]; exact hu
    | 1, hu => rw [h1]; exact hu

end Go.Proofs.Ytjmklbkcpjmcaaa.V
