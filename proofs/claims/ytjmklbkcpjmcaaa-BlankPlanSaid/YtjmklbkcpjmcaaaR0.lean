/-
  Rows: the arguments are opened, the claim is shut.
-/
import Derived.Test.YtjmklbkcpjmcaaaV2
import Derived.ProofKit
import Derived.Deep.SlicePairs
import Derived.Lib.SmallJoins
namespace Go.Proofs.Ytjmklbkcpjmcaaa.V
open Go Go.RowKit Go.Proofs.Ytjmklbkcpjmcaaa.H Go.ChangeShapes Go.WideShapes Go.ChangeAt
set_option linter.unusedVariables false
set_option linter.unusedSimpArgs false

def ptOf : Value → Value → Pt
  | .int _ a, .int _ b => (a, b)
  | _, _ => (0, 0)

set_option maxRecDepth 100000 in
theorem open_vecs {K : Type} {en : TypeId × Value → K} {W : World} {base : Nat} {v : Value} {d : DataW K} {p : List MemPlace} (h : DataW.Trod en P W 0 (fun _ => true) true 22 v d p)
    (hok : Value.okWide P W .any base 22 v) : ∃ (A : Option Addr) (n c : Nat) (ps : List Pt), v = .slice A n c ∧ n = ps.length ∧ Rd enc 2 W A ps := by
  obtain ⟨a0, len, cap, rfl⟩ := okWide_slice slV hok
  obtain ⟨fuel, hf⟩ := h
  rcases Go.Deep.open_slice_pairs slV Try.underlying52 (by kernel_rfl) rfl rfl (by kernel_rfl) (by kernel_rfl) hf with ⟨hcs, hx⟩ | ⟨a, len', cap', m, n, V0, V1, D0, D1, P0, P1, hcs, _, hl, hm, hmm, hx, hrows⟩
  · simp [Value.cells] at hcs
    obtain ⟨rfl, rfl, rfl⟩ := hcs
    exact ⟨none, 0, 0, [], rfl, rfl, Rd.nil⟩
  · simp [Value.cells] at hcs
    obtain ⟨rfl, rfl, rfl⟩ := hcs
    refine ⟨some a, len, cap, (List.range len).map (fun i => ptOf (V0 i) (V1 i)), rfl, by simp, fun i hi => ⟨a, rfl, ?_⟩⟩
    have hi' : i < len := by simpa using hi
    have him : i < m := by rw [hmm]; split <;> omega
    obtain ⟨h0, h1, h2, h3⟩ := hrows i him
    obtain ⟨x, hx0, _, _⟩ := DataW.trod_int Try.underlying3 h2
    obtain ⟨y, hy0, _, _⟩ := DataW.trod_int Try.underlying3 h3
    injection hx0 with hx0
    injection hy0 with hy0
    intro j u hu
    simp only [List.getElem_map, List.getElem_range, hx0, hy0, ptOf, enc] at hu
    rw [H.add_add]
    match j, hu with
    | 0, hu => rw [Nat.add_zero, h0, hx0]; exact hu
    | 1, hu => rw [h1, hy0]; exact hu

set_option maxRecDepth 100000 in
theorem post_of_mem {K : Type} {en : TypeId × Value → K} {f : Func} {s : ChangeSpec} {apart fresh handsOn again : Bool} {W W' : World} {args : Array Value} {v : Value} {ds gs : List (DataW K)} {before : List MemPlace}
    (hW : DataW.Whole en P f.params.toList s.vars apart W args.toList ds gs before) (hm : Mem W [] [] W')
    (hres : ∀ (b : Nat) (sp : Nat → Bool) (hd : Bool), DataW.TrodAll en P W' b sp hd f.resultTypes.toList (v.resultList f.resultTypes.size) (s.fn K (ds ++ gs)).results [])
    (hargs : ∀ sp : Nat → Bool, (∀ p ∈ before, sp p.block = true) → DataW.TrodAll en P W' 0 sp true f.params.toList args.toList (s.fn K (ds ++ gs)).args before)
    (hvars : ∀ sp : Nat → Bool, DataW.TrodVars en P W' sp s.vars (s.fn K (ds ++ gs)).vars [])
    (hok : ∀ (j : Nat) (t : TypeId) (r : Value), f.resultTypes[j]? = some t → (v.resultList f.resultTypes.size)[j]? = some r → Value.okWide P W' .any 0 t r) :
    s.post en P f apart fresh handsOn again W args v W' := by
  have hold : ∀ p ∈ before, (fun b => decide (b < W.heap.size)) p.block = true := fun p hp => by simpa using hW.lt p hp
  refine ⟨ds, gs, before, [], before, [], hW, hres _ _ _, hargs _ hold, hvars _, ?_, fun _ => ?_⟩
  · refine ⟨hm.os, hm.output, fun i hi => ?_⟩
    rw [hm.old i hi (by simp)]
    cases hh : W.heap[i]? with
    | none => rfl
    | some o => cases o <;> simp
  · obtain ⟨p, q, _, _, hpq, hz, hn⟩ := hW
    refine ⟨hok, _, _, ([] ++ before) ++ [], ⟨[] ++ before, [], trodAll_append (hargs _ (fun _ _ => rfl)) (hres _ _ _), hvars _, rfl, ?_, ?_⟩, ?_⟩
    · intro b off hp
      have hp' : MemPlace.cell b off ∈ before := by simpa using hp
      have h1 := hz b off hp'
      have h2 : b < W.heap.size := by
        have : decide ((MemPlace.cell b off).block < W.heap.size) = true := hold _ hp'
        exact of_decide_eq_true this
      have h3 := hm.old b h2 (by simp)
      unfold World.frozen? at h1 ⊢
      rw [h3]; exact h1
    · intro ha
      simpa using hn ha
    · intro p hp _
      simpa using hp

end Go.Proofs.Ytjmklbkcpjmcaaa.V
