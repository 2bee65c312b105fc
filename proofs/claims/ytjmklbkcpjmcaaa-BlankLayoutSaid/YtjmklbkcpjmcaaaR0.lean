/-
  Rows: the arguments are opened, the claim is shut.
  Rows: slices of items are opened.
  Rows: slices of cuts are opened.
-/
import Derived.Test.YtjmklbkcpjmcaaaV2
import Derived.ProofKit
import Derived.Deep.SlicePairs
import Derived.Lib.SmallJoins
import Derived.Test.YtjmklbkcpjmcaaaVd
namespace Go.Proofs.Ytjmklbkcpjmcaaa.V
open Go Go.RowKit Go.Proofs.Ytjmklbkcpjmcaaa.H Go.ChangeShapes Go.WideShapes Go.ChangeAt
set_option linter.unusedVariables false
set_option linter.unusedSimpArgs false

def ptOf : Value → Value → Pt
  | .int _ a, .int _ b => (a, b)
  | _, _ => (0, 0)

set_option maxRecDepth 100000 in
theorem open_vecs {K : Type} {en : TypeId × Value → K} {W : World} {base : Nat} {v : Value} {d : DataW K} {p : List MemPlace} (h : DataW.Trod en P W 0 (fun _ => true) true 22 v d p)
    (hok : Value.okWide P W .any base 22 v) : ∃ (A : Option Addr) (n c : Nat) (ps : List Pt), v = .slice A n c ∧ n = ps.length ∧ Rd enc 2 W A ps := by
  obtain ⟨a0, len, cap, rfl⟩ := okWide_slice slV hok
  obtain ⟨fuel, hf⟩ := h
  rcases Go.Deep.open_slice_pairs slV Try.underlying52 (by kernel_rfl) rfl rfl (by kernel_rfl) (by kernel_rfl) hf with ⟨hcs, hx⟩ | ⟨a, len', cap', m, n, V0, V1, D0, D1, P0, P1, hcs, _, hl, hm, hmm, hx, hrows⟩
  · simp [Value.cells] at hcs
    obtain ⟨rfl, rfl, rfl⟩ := hcs
    exact ⟨none, 0, 0, [], rfl, rfl, Rd.nil⟩
  · simp [Value.cells] at hcs
    obtain ⟨rfl, rfl, rfl⟩ := hcs
    refine ⟨some a, len, cap, (List.range len).map (fun i => ptOf (V0 i) (V1 i)), rfl, by simp, fun i hi => ⟨a, rfl, ?_⟩⟩
    have hi' : i < len := by simpa using hi
    have him : i < m := by rw [hmm]; split <;> omega
    obtain ⟨h0, h1, h2, h3⟩ := hrows i him
    obtain ⟨x, hx0, _, _⟩ := DataW.trod_int Try.underlying3 h2
    obtain ⟨y, hy0, _, _⟩ := DataW.trod_int Try.underlying3 h3
    injection hx0 with hx0
    injection hy0 with hy0
    intro j u hu
    simp only [List.getElem_map, List.getElem_range, hx0, hy0, ptOf, enc] at hu
    rw [H.add_add]
    match j, hu with
    | 0, hu => rw [Nat.add_zero, h0, hx0]; exact hu
    | 1, hu => rw [h1, hy0]; exact hu

set_option maxRecDepth 100000 in
theorem post_of_mem {K : Type} {en : TypeId × Value → K} {f : Func} {s : ChangeSpec} {apart fresh handsOn again : Bool} {W W' : World} {args : Array Value} {v : Value} {ds gs : List (DataW K)} {before : List MemPlace}
    (hW : DataW.Whole en P f.params.toList s.vars apart W args.toList ds gs before) (hm : Mem W [] [] W')
    (hres : ∀ (b : Nat) (sp : Nat → Bool) (hd : Bool), DataW.TrodAll en P W' b sp hd f.resultTypes.toList (v.resultList f.resultTypes.size) (s.fn K (ds ++ gs)).results [])
    (hargs : ∀ sp : Nat → Bool, (∀ p ∈ before, sp p.block = true) → DataW.TrodAll en P W' 0 sp true f.params.toList args.toList (s.fn K (ds ++ gs)).args before)
    (hvars : ∀ sp : Nat → Bool, DataW.TrodVars en P W' sp s.vars (s.fn K (ds ++ gs)).vars [])
    (hok : ∀ (j : Nat) (t : TypeId) (r : Value), f.resultTypes[j]? = some t → (v.resultList f.resultTypes.size)[j]? = some r → Value.okWide P W' .any 0 t r) :
    s.post en P f apart fresh handsOn again W args v W' := by
  have hold : ∀ p ∈ before, (fun b => decide (b < W.heap.size)) p.block = true := fun p hp => by simpa using hW.lt p hp
  refine ⟨ds, gs, before, [], before, [], hW, hres _ _ _, hargs _ hold, hvars _, ?_, fun _ => ?_⟩
  · refine ⟨hm.os, hm.output, fun i hi => ?_⟩
    rw [hm.old i hi (by simp)]
    cases hh : W.heap[i]? with
    | none => rfl
    | some o => cases o <;> simp
  · obtain ⟨p, q, _, _, hpq, hz, hn⟩ := hW
    refine ⟨hok, _, _, ([] ++ before) ++ [], ⟨[] ++ before, [], trodAll_append (hargs _ (fun _ _ => rfl)) (hres _ _ _), hvars _, rfl, ?_, ?_⟩, ?_⟩
    · intro b off hp
      have hp' : MemPlace.cell b off ∈ before := by simpa using hp
      have h1 := hz b off hp'
      have h2 : b < W.heap.size := by
        have : decide ((MemPlace.cell b off).block < W.heap.size) = true := hold _ hp'
        exact of_decide_eq_true this
      have h3 := hm.old b h2 (by simp)
      unfold World.frozen? at h1 ⊢
      rw [h3]; exact h1
    · intro ha
      simpa using hn ha
    · intro p hp _
      simpa using hp

end Go.Proofs.Ytjmklbkcpjmcaaa.V

namespace Go.Proofs.Ytjmklbkcpjmcaaa.V
open Go Go.RowKit Go.Proofs.Ytjmklbkcpjmcaaa.H Go.ChangeShapes Go.WideShapes Go.ChangeAt Go.Proofs.Ytjmklbkcpjmcaaa.LL
set_option linter.unusedVariables false
set_option linter.unusedSimpArgs false

set_option maxRecDepth 100000 in
theorem open_items {K : Type} {en : TypeId × Value → K} {W : World} {base : Nat} {v : Value} {d : DataW K} {p : List MemPlace} (h : DataW.Trod en P W 0 (fun _ => true) true 30 v d p)
    (hok : Value.okWide P W .any base 30 v) : ∃ (A : Option Addr) (n c : Nat) (l : List It), v = .slice A n c ∧ n = l.length ∧ Rd encT 3 W A l := by
  obtain ⟨a0, len, cap, rfl⟩ := okWide_slice slapiItem hok
  obtain ⟨fuel, hf⟩ := h
  have ce : P.cellsOf 37 = 3 := by kernel_rfl
  have c1 : P.cellsOf 3 = 1 := by kernel_rfl
  rcases Go.Deep.open_slice slapiItem hf with ⟨hcs, hx⟩ | ⟨a, len', cap', m, n, D, Pl, hcs, hb, hl, hm, hmm, hxe, hx⟩
  · simp [Value.cells] at hcs
    obtain ⟨rfl, rfl, rfl⟩ := hcs
    exact ⟨none, 0, 0, [], rfl, rfl, Rd.nil⟩
  · simp [Value.cells] at hcs
    obtain ⟨rfl, rfl, rfl⟩ := hcs
    have each : ∀ i, i < m → ∃ q : It, W.cell? (a.add (i * 3)) = some (int q.1) ∧ W.cell? (a.add (i * 3 + 1)) = some (int q.2.1) ∧ W.cell? (a.add (i * 3 + 2)) = some (int q.2.2) := by
      intro i hi
      obtain ⟨cs', h1, h2⟩ := hx i hi
      rw [ce] at h1
      obtain ⟨_, hlen, hcell⟩ := World.cells?_some h1
      obtain ⟨xs, k, hk, hxy, _, hxl, hf'⟩ := DataW.trod_struct Try.underlying37 h2
      match xs, hxl, cs', hlen with
      | [y0, y1, y2], _, [v0, v1, v2], _ =>
        have g0 := hf' 0 _ rfl
        have g1 := hf' 1 _ rfl
        have g2 := hf' 2 _ rfl
        simp [c1] at g0 g1 g2
        have e0 := hcell 0 (by omega)
        have e1 := hcell 1 (by omega)
        have e2 := hcell 2 (by omega)
        rw [add_add] at e0 e1 e2
        obtain ⟨x0, hx0, _, _⟩ := DataW.trod_int Try.underlying3 g0
        obtain ⟨x1, hx1, _, _⟩ := DataW.trod_int Try.underlying3 g1
        obtain ⟨x2, hx2, _, _⟩ := DataW.trod_int Try.underlying3 g2
        injection hx0 with hx0
        injection hx1 with hx1
        injection hx2 with hx2
        subst hx0 hx1 hx2
        exact ⟨(x0, x1, x2), by simpa using e0, by simpa using e1, by simpa using e2⟩
    obtain ⟨q, hq⟩ := Go.Deep.choose_lt each
    refine ⟨some a, len, cap, (List.range len).map q, rfl, by simp, fun i hi => ⟨a, rfl, ?_⟩⟩
    have hi' : i < len := by simpa using hi
    have him : i < m := by rw [hmm]; split <;> omega
    obtain ⟨h0, h1, h2⟩ := hq i him
    intro j u hu
    simp only [List.getElem_map, List.getElem_range, encT] at hu
    rw [H.add_add]
    match j, hu with
    | 0, hu => rw [Nat.add_zero, h0]; exact hu
    | 1, hu => rw [h1]; exact hu
    | 2, hu => rw [h2]; exact hu

section
variable {K : Type} {en : TypeId × Value → K} {Pg : Program} {w : World} {base : Nat} {spare : Nat → Bool} {held : Bool}
theorem trodAll_four' {t0 t1 t2 t3 : TypeId} {args : Array Value} {ds : List (DataW K)} {ps : List MemPlace} (h : DataW.TrodAll en Pg w base spare held [t0, t1, t2, t3] args.toList ds ps) :
    ∃ v0 v1 v2 v3 d0 d1 d2 d3 p0 p1 p2 p3, args = #[v0, v1, v2, v3] ∧ ds = [d0, d1, d2, d3] ∧ ps = p0 ++ (p1 ++ (p2 ++ p3)) ∧ DataW.Trod en Pg w base spare held t0 v0 d0 p0 ∧ DataW.Trod en Pg w base spare held t1 v1 d1 p1 ∧ DataW.Trod en Pg w base spare held t2 v2 d2 p2 ∧ DataW.Trod en Pg w base spare held t3 v3 d3 p3 := by
  obtain ⟨v0, vs0, d0, ds0, p0, q0, hargs, rfl, rfl, h0, r0⟩ := trodAll_cons h
  obtain ⟨v1, vs1, d1, ds1, p1, q1, rfl, rfl, rfl, h1, r1⟩ := trodAll_cons r0
  obtain ⟨v2, vs2, d2, ds2, p2, q2, rfl, rfl, rfl, h2, r2⟩ := trodAll_cons r1
  obtain ⟨v3, vs3, d3, ds3, p3, q3, rfl, rfl, rfl, h3, r3⟩ := trodAll_cons r2
  obtain ⟨rfl, rfl, rfl⟩ := trodAll_nil r3
  exact ⟨v0, v1, v2, v3, d0, d1, d2, d3, p0, p1, p2, p3, by cases args; simp_all, rfl, by simp, h0, h1, h2, h3⟩
theorem trodAll_five' {t0 t1 t2 t3 t4 : TypeId} {args : Array Value} {ds : List (DataW K)} {ps : List MemPlace} (h : DataW.TrodAll en Pg w base spare held [t0, t1, t2, t3, t4] args.toList ds ps) :
    ∃ v0 v1 v2 v3 v4 d0 d1 d2 d3 d4 p0 p1 p2 p3 p4, args = #[v0, v1, v2, v3, v4] ∧ ds = [d0, d1, d2, d3, d4] ∧ ps = p0 ++ (p1 ++ (p2 ++ (p3 ++ p4))) ∧ DataW.Trod en Pg w base spare held t0 v0 d0 p0 ∧ DataW.Trod en Pg w base spare held t1 v1 d1 p1 ∧ DataW.Trod en Pg w base spare held t2 v2 d2 p2 ∧ DataW.Trod en Pg w base spare held t3 v3 d3 p3 ∧ DataW.Trod en Pg w base spare held t4 v4 d4 p4 := by
  obtain ⟨v0, vs0, d0, ds0, p0, q0, hargs, rfl, rfl, h0, r0⟩ := trodAll_cons h
  obtain ⟨v1, vs1, d1, ds1, p1, q1, rfl, rfl, rfl, h1, r1⟩ := trodAll_cons r0
  obtain ⟨v2, vs2, d2, ds2, p2, q2, rfl, rfl, rfl, h2, r2⟩ := trodAll_cons r1
  obtain ⟨v3, vs3, d3, ds3, p3, q3, rfl, rfl, rfl, h3, r3⟩ := trodAll_cons r2
  obtain ⟨v4, vs4, d4, ds4, p4, q4, rfl, rfl, rfl, h4, r4⟩ := trodAll_cons r3
  obtain ⟨rfl, rfl, rfl⟩ := trodAll_nil r4
  exact ⟨v0, v1, v2, v3, v4, d0, d1, d2, d3, d4, p0, p1, p2, p3, p4, by cases args; simp_all, rfl, by simp, h0, h1, h2, h3, h4⟩
theorem trodAll_six' {t0 t1 t2 t3 t4 t5 : TypeId} {args : Array Value} {ds : List (DataW K)} {ps : List MemPlace} (h : DataW.TrodAll en Pg w base spare held [t0, t1, t2, t3, t4, t5] args.toList ds ps) :
    ∃ v0 v1 v2 v3 v4 v5 d0 d1 d2 d3 d4 d5 p0 p1 p2 p3 p4 p5, args = #[v0, v1, v2, v3, v4, v5] ∧ ds = [d0, d1, d2, d3, d4, d5] ∧ ps = p0 ++ (p1 ++ (p2 ++ (p3 ++ (p4 ++ p5)))) ∧ DataW.Trod en Pg w base spare held t0 v0 d0 p0 ∧ DataW.Trod en Pg w base spare held t1 v1 d1 p1 ∧ DataW.Trod en Pg w base spare held t2 v2 d2 p2 ∧ DataW.Trod en Pg w base spare held t3 v3 d3 p3 ∧ DataW.Trod en Pg w base spare held t4 v4 d4 p4 ∧ DataW.Trod en Pg w base spare held t5 v5 d5 p5 := by
  obtain ⟨v0, vs0, d0, ds0, p0, q0, hargs, rfl, rfl, h0, r0⟩ := trodAll_cons h
  obtain ⟨v1, vs1, d1, ds1, p1, q1, rfl, rfl, rfl, h1, r1⟩ := trodAll_cons r0
  obtain ⟨v2, vs2, d2, ds2, p2, q2, rfl, rfl, rfl, h2, r2⟩ := trodAll_cons r1
  obtain ⟨v3, vs3, d3, ds3, p3, q3, rfl, rfl, rfl, h3, r3⟩ := trodAll_cons r2
  obtain ⟨v4, vs4, d4, ds4, p4, q4, rfl, rfl, rfl, h4, r4⟩ := trodAll_cons r3
  obtain ⟨v5, vs5, d5, ds5, p5, q5, rfl, rfl, rfl, h5, r5⟩ := trodAll_cons r4
  obtain ⟨rfl, rfl, rfl⟩ := trodAll_nil r5
  exact ⟨v0, v1, v2, v3, v4, v5, d0, d1, d2, d3, d4, d5, p0, p1, p2, p3, p4, p5, by cases args; simp_all, rfl, by simp, h0, h1, h2, h3, h4, h5⟩
theorem trodAll_mk4' {t0 t1 t2 t3 : TypeId} {v0 v1 v2 v3 : Value} {d0 d1 d2 d3 : DataW K} {p0 p1 p2 p3 : List MemPlace} (h0 : DataW.Trod en Pg w base spare held t0 v0 d0 p0) (h1 : DataW.Trod en Pg w base spare held t1 v1 d1 p1) (h2 : DataW.Trod en Pg w base spare held t2 v2 d2 p2) (h3 : DataW.Trod en Pg w base spare held t3 v3 d3 p3) :
    DataW.TrodAll en Pg w base spare held [t0, t1, t2, t3] [v0, v1, v2, v3] [d0, d1, d2, d3] (p0 ++ (p1 ++ (p2 ++ p3))) := ⟨p0, p1 ++ (p2 ++ p3), h0, trodAll_mk3 h1 h2 h3, rfl⟩
theorem trodAll_mk5' {t0 t1 t2 t3 t4 : TypeId} {v0 v1 v2 v3 v4 : Value} {d0 d1 d2 d3 d4 : DataW K} {p0 p1 p2 p3 p4 : List MemPlace} (h0 : DataW.Trod en Pg w base spare held t0 v0 d0 p0) (h1 : DataW.Trod en Pg w base spare held t1 v1 d1 p1) (h2 : DataW.Trod en Pg w base spare held t2 v2 d2 p2) (h3 : DataW.Trod en Pg w base spare held t3 v3 d3 p3) (h4 : DataW.Trod en Pg w base spare held t4 v4 d4 p4) :
    DataW.TrodAll en Pg w base spare held [t0, t1, t2, t3, t4] [v0, v1, v2, v3, v4] [d0, d1, d2, d3, d4] (p0 ++ (p1 ++ (p2 ++ (p3 ++ p4)))) := ⟨p0, p1 ++ (p2 ++ (p3 ++ p4)), h0, trodAll_mk4' h1 h2 h3 h4, rfl⟩
theorem trodAll_mk6' {t0 t1 t2 t3 t4 t5 : TypeId} {v0 v1 v2 v3 v4 v5 : Value} {d0 d1 d2 d3 d4 d5 : DataW K} {p0 p1 p2 p3 p4 p5 : List MemPlace} (h0 : DataW.Trod en Pg w base spare held t0 v0 d0 p0) (h1 : DataW.Trod en Pg w base spare held t1 v1 d1 p1) (h2 : DataW.Trod en Pg w base spare held t2 v2 d2 p2) (h3 : DataW.Trod en Pg w base spare held t3 v3 d3 p3) (h4 : DataW.Trod en Pg w base spare held t4 v4 d4 p4) (h5 : DataW.Trod en Pg w base spare held t5 v5 d5 p5) :
    DataW.TrodAll en Pg w base spare held [t0, t1, t2, t3, t4, t5] [v0, v1, v2, v3, v4, v5] [d0, d1, d2, d3, d4, d5] (p0 ++ (p1 ++ (p2 ++ (p3 ++ (p4 ++ p5))))) := ⟨p0, p1 ++ (p2 ++ (p3 ++ (p4 ++ p5))), h0, trodAll_mk5' h1 h2 h3 h4 h5, rfl⟩
end

theorem u8_range {n : Int} (h : (Lit.int .u8 n).wf = true) : 0 ≤ n ∧ n ≤ 255 := by
  simp [Lit.wf, IntKind.min, IntKind.max, IntKind.bits, IntKind.signed] at h
  omega

end Go.Proofs.Ytjmklbkcpjmcaaa.V

namespace Go.Proofs.Ytjmklbkcpjmcaaa.V
open Go Go.RowKit Go.Proofs.Ytjmklbkcpjmcaaa.H Go.ChangeShapes Go.WideShapes Go.ChangeAt Go.Proofs.Ytjmklbkcpjmcaaa.LL
set_option linter.unusedVariables false
set_option linter.unusedSimpArgs false

set_option maxRecDepth 100000 in
theorem open_cuts {K : Type} {en : TypeId × Value → K} {W : World} {base : Nat} {v : Value} {d : DataW K} {p : List MemPlace} (h : DataW.Trod en P W 0 (fun _ => true) true 32 v d p)
    (hok : Value.okWide P W .any base 32 v) : ∃ (A : Option Addr) (n c : Nat) (l : List Ct2), v = .slice A n c ∧ n = l.length ∧ Rd enc 2 W A l ∧ n ≤ c := by
  obtain ⟨a0, len, cap, rfl⟩ := okWide_slice slapiCut hok
  obtain ⟨fuel, hf⟩ := h
  have ce : P.cellsOf 69 = 2 := by kernel_rfl
  have c1 : P.cellsOf 3 = 1 := by kernel_rfl
  rcases Go.Deep.open_slice slapiCut hf with ⟨hcs, hx⟩ | ⟨a, len', cap', m, n, D, Pl, hcs, hb, hl, hm, hmm, hxe, hx⟩
  · simp [Value.cells] at hcs
    obtain ⟨rfl, rfl, rfl⟩ := hcs
    exact ⟨none, 0, 0, [], rfl, rfl, Rd.nil, Nat.le_refl _⟩
  · simp [Value.cells] at hcs
    obtain ⟨rfl, rfl, rfl⟩ := hcs
    have each : ∀ i, i < m → ∃ q : Ct2, W.cell? (a.add (i * 2)) = some (int q.1) ∧ W.cell? (a.add (i * 2 + 1)) = some (int q.2) := by
      intro i hi
      obtain ⟨cs', h1, h2⟩ := hx i hi
      rw [ce] at h1
      obtain ⟨_, hlen, hcell⟩ := World.cells?_some h1
      obtain ⟨xs, k, hk, hxy, _, hxl, hf'⟩ := DataW.trod_struct Try.underlying69 h2
      match xs, hxl, cs', hlen with
      | [y0, y1], _, [v0, v1], _ =>
        have g0 := hf' 0 _ rfl
        have g1 := hf' 1 _ rfl
        simp [c1] at g0 g1
        have e0 := hcell 0 (by omega)
        have e1 := hcell 1 (by omega)
        rw [add_add] at e0 e1
        obtain ⟨x0, hx0, _, _⟩ := DataW.trod_int Try.underlying3 g0
        obtain ⟨x1, hx1, _, _⟩ := DataW.trod_int Try.underlying3 g1
        injection hx0 with hx0
        injection hx1 with hx1
        subst hx0 hx1
        exact ⟨(x0, x1), by simpa using e0, by simpa using e1⟩
    obtain ⟨q, hq⟩ := Go.Deep.choose_lt each
    refine ⟨some a, len, cap, (List.range len).map q, rfl, by simp, fun i hi => ⟨a, rfl, ?_⟩, hl⟩
    have hi' : i < len := by simpa using hi
    have him : i < m := by rw [hmm]; split <;> omega
    obtain ⟨h0, h1⟩ := hq i him
    intro j u hu
    simp only [List.getElem_map, List.getElem_range, enc] at hu
    rw [H.add_add]
    match j, hu with
    | 0, hu => rw [Nat.add_zero, h0]; exact hu
    | 1, hu => rw [h1]; exact hu

end Go.Proofs.Ytjmklbkcpjmcaaa.V
