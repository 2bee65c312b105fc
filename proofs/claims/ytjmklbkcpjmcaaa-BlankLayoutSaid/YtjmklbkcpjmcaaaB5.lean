/-
  Package blank: items, sheet, fits.
-/
import Derived.Test.YtjmklbkcpjmcaaaVd
namespace Go.Proofs.Ytjmklbkcpjmcaaa.V
open Go Go.RowKit Go.Proofs.Ytjmklbkcpjmcaaa.H Go.Proofs.Ytjmklbkcpjmcaaa.LL
set_option linter.unusedVariables false
set_option linter.unusedSimpArgs false

abbrev itc (i : It) : Value := itv i.1 i.2.1 i.2.2

def idxT (p : It → Bool) (ps : List It) : Int := match ps.findIdx? p with | some i => (i : Int) | none => -1

theorem idxT_some {p : It → Bool} {ps : List It} {k : Nat} (hk : k < ps.length) (h : p ps[k] = true) (hno : ∀ j (hj : j < ps.length), j < k → p ps[j] = false) : idxT p ps = k := by
  have : ps.findIdx? p = some k := List.findIdx?_eq_some_iff_getElem.2 ⟨hk, h, fun j hj => by simp [hno j (by omega) hj]⟩
  unfold idxT
  rw [this]

theorem idxT_none {p : It → Bool} {ps : List It} (hno : ∀ j (hj : j < ps.length), p ps[j] = false) : idxT p ps = -1 := by
  have : ps.findIdx? p = none := List.findIdx?_eq_none_iff.2 fun x hx => by
    obtain ⟨j, hj, rfl⟩ := List.getElem_of_mem hx
    exact hno j hj
  unfold idxT
  rw [this]

theorem idxT_any (p : It → Bool) (ps : List It) : decide (idxT p ps ≥ 0) = ps.any p := by
  unfold idxT
  cases h : ps.findIdx? p with
  | none =>
    have := List.findIdx?_eq_none_iff.1 h
    have h2 : ps.any p = false := by rw [List.any_eq_false]; intro x hx; simp [this x hx]
    rw [h2]; decide
  | some i =>
    obtain ⟨hi, hp, _⟩ := List.findIdx?_eq_some_iff_getElem.1 h
    have h2 : ps.any p = true := List.any_eq_true.2 ⟨ps[i], List.getElem_mem hi, hp⟩
    rw [h2]; simp

/-- a function value that answers a bool of a vector -/
def PredT (fid : Nat) (cap : Array Value) (p : It → Bool) (w : World) (q : It) : Prop :=
  ∀ L w', Mem w [] L w' → Ct P fid ([itc q] ++ cap.toList).toArray w' [] (fun v L => v = .bool (p q) ∧ L = [])

theorem indexFuncT_ct (A : Option Addr) (ps : List It) (c : Nat) (fid : Nat) (cap : Array Value) (p : It → Bool) (w : World) (hp : Rd encT 3 w A ps) (hlen : ps.length ≤ 1099511627776)
    (hpred : ∀ q ∈ ps, PredT fid cap p w q) :
    Ct P 105 #[.slice A ps.length c, .func (.func fid) #[] cap] w [] (fun v L => v = int (idxT p ps) ∧ L = []) := by
  refine Ct.of_body (rs := [.tmp 4]) (N := 19) (L := []) Try.func105 rfl rfl rfl (by kernel_rfl) rfl (Mem.refl w) ?_
  refine HW.seq (HW.region [(0, .st)] rfl rfl ?_)
  refine Plan.assign (v := .int _ _) rfl rfl rfl ?_
  refine Plan.done ?_
  refine HW.seq ?_
  refine HW.seq (HW.region [(0, .st), (1, .st), (2, .st)] rfl rfl ?_)
  refine Plan.move (v := .slice _ _ _) rfl rfl rfl ?_
  refine Plan.len rfl rfl slapiItem rfl ?_
  refine Plan.move (v := .int _ _) rfl rfl rfl ?_
  refine Plan.done ?_
  refine HW.block ?_
  refine HW.loopC (G := Nat) [4, 5, 8, 9, 10, 11, 12, 13, 14, 15, 16, 17, 18] (fun g => [(8, int g)]) (fun g => g ≤ ps.length ∧ ∀ j (h : j < ps.length), j < g → p ps[j] = false) (fun g => ps.length - g) (0) ⟨rfl, trivial⟩ (⟨Nat.zero_le _, fun j h hj => absurd hj (Nat.not_lt_zero _)⟩) (fun g F hok => ?_)
  obtain ⟨hk, hno⟩ := hok
  refine HW.seq (HW.region [(0, .st)] rfl rfl ?_)
  refine Plan.cmp2 rfl rfl rfl rfl rfl (fun h9 => ?_) (fun h9 => ?_)
  · replace h9 := of_decide_eq_true h9
    have hlt : g < ps.length := by omega
    obtain ⟨ad, rfl, hl⟩ := hp g hlt
    refine Plan.done ?_
    refine HW.seq ?_
    refine HW.cond_true rfl ?_
    refine HW.skip ?_
    refine HW.seq ?_
    refine HW.block ?_
    refine HW.seq (HW.region [(0, .st), (1, .st)] rfl rfl ?_)
    refine Plan.move (v := .int _ _) rfl rfl rfl ?_
    refine Plan.assign (v := .int _ _) rfl rfl rfl ?_
    refine Plan.done ?_
    refine HW.seq (HW.region [(0, .st), (1, .st), (2, .st), (3, .st), (4, .st), (5, .ef)] rfl rfl ?_)
    refine Plan.move (v := .func _ _ _) rfl rfl rfl ?_
    refine Plan.move (v := .slice _ _ _) rfl rfl rfl ?_
    refine Plan.move (v := .int _ _) rfl rfl rfl ?_
    refine Plan.indexN g rfl rfl slapiItem sizapiItem rfl rfl rfl rfl hlt ?_
    refine Plan.loadAgg rfl rfl aggItem sizItem rfl (Sees.old hl (by simp)) rfl ?_
    refine Plan.callV [] 0 rfl rfl rfl rfl (.inl rfl) (by simp) (R := fun v L => v = .bool (p ps[g]) ∧ L = []) (fun w' hm => hpred ps[g] (List.getElem_mem hlt) _ w' hm) ?_
    rintro v Ln ⟨rfl, rfl⟩
    refine Plan.splitB (fun h16 => ?_) (fun h16 => ?_)
    · skip
      refine Plan.done ?_
      refine HW.cond_true rfl ?_
      refine HW.seq (HW.region [(0, .st), (1, .st)] rfl rfl ?_)
      refine Plan.move (v := .int _ _) rfl rfl rfl ?_
      refine Plan.assign (v := .int _ _) rfl rfl rfl ?_
      refine Plan.done ?_
      exact HW.ret ⟨rfl, _, [], .tmp rfl .nil, List.nil_sublist _, by rw [idxT_some hlt h16 hno]; rfl, rfl⟩
    · skip
      refine Plan.done ?_
      refine HW.cond_false rfl ?_
      refine HW.skip ?_
      refine HW.region [(0, .st), (1, .st)] rfl rfl ?_
      refine Plan.arithI rfl rfl rfl rfl rfl (by omega) ?_
      refine Plan.move (v := .int _ _) rfl rfl rfl ?_
      refine Plan.done ?_
      exact ⟨g + 1, by simp only; omega, ⟨hlt, fun j hj hjk => by rcases Nat.lt_succ_iff_lt_or_eq.1 hjk with h | rfl <;> (first | exact hno j hj h | exact h16)⟩, rfl, (Ent.sub (.refl _)), (by repeat (first | exact Agree.havoc _ _ _ | refine Agree.updN ?_ | refine Agree.upd rfl ?_ | refine Agree.updL rfl ?_ | refine Agree.havoc2 rfl ?_)), ⟨rfl, trivial⟩⟩
  · replace h9 := of_decide_eq_false h9
    refine Plan.done ?_
    refine HW.seq ?_
    refine HW.cond_false rfl ?_
    refine HW.exit ?_
    refine HW.seq (HW.region [(0, .st)] rfl rfl ?_)
    refine Plan.assign (v := .int _ _) rfl rfl rfl ?_
    refine Plan.done ?_
    exact HW.ret ⟨rfl, _, [], .tmp rfl .nil, List.nil_sublist _, by rw [idxT_none (fun j hj => hno j hj (by omega))]; rfl, rfl⟩

theorem containsFuncT_ct (A : Option Addr) (ps : List It) (c : Nat) (fid : Nat) (cap : Array Value) (p : It → Bool) (w : World) (hp : Rd encT 3 w A ps) (hlen : ps.length ≤ 1099511627776)
    (hpred : ∀ q ∈ ps, PredT fid cap p w q) :
    Ct P 80 #[.slice A ps.length c, .func (.func fid) #[] cap] w [] (fun v L => v = .bool (ps.any p) ∧ L = []) := by
  have e := idxT_any p ps
  refine Ct.of_body (rs := [.tmp 4]) (N := 9) (L := []) Try.func80 rfl rfl rfl (by kernel_rfl) rfl (Mem.refl w) ?_
  refine HW.seq (HW.region [(0, .st)] rfl rfl ?_)
  refine Plan.assign (v := .bool _) rfl rfl rfl ?_
  refine Plan.done ?_
  refine HW.seq (HW.region [(0, .st), (1, .st), (2, .ef), (3, .st), (4, .st)] rfl rfl ?_)
  refine Plan.move (v := .slice _ _ _) rfl rfl rfl ?_
  refine Plan.move (v := .func _ _ _) rfl rfl rfl ?_
  refine Plan.callF [] 0 rfl rfl rfl (.inl rfl) (by simp) (fun w hm => indexFuncT_ct A ps c fid cap p w (hp.mem hm) hlen (fun q hq L w' hm' => hpred q hq (L ++ []) w' (Mem.call (L1 := []) (L2 := []) hm hm' (by simp)))) ?_   -- slices.IndexFunc[[]tinplate/api.Item,tinplate/api.Item]
  rintro v Ln ⟨rfl, rfl⟩
  refine Plan.cmp2 rfl rfl rfl rfl rfl (fun h8 => ?_) (fun h8 => ?_)
  · replace h8 := of_decide_eq_true h8
    refine Plan.assign (v := .bool _) rfl rfl rfl ?_
    refine Plan.done ?_
    exact HW.ret ⟨rfl, _, [], .tmp rfl .nil, List.nil_sublist _, by rw [← e, decide_eq_true h8]; rfl, rfl⟩
  · replace h8 := of_decide_eq_false h8
    refine Plan.assign (v := .bool _) rfl rfl rfl ?_
    refine Plan.done ?_
    exact HW.ret ⟨rfl, _, [], .tmp rfl .nil, List.nil_sublist _, by rw [← e, decide_eq_false h8]; rfl, rfl⟩


def badI (i : It) : Bool := decide (i.1 < 1 ∨ 100 < i.1 ∨ i.2.1 < 1 ∨ 100 < i.2.1 ∨ i.2.2 < 1 ∨ 1048576 < i.2.2)
def sheetF (x y : Int) (l : List It) : Int := if x < 1 ∨ 100 < x ∨ y < 1 ∨ 100 < y then 2 else if 10 < l.length then 3 else if l.any badI then 2 else 0

theorem sheet1_ct (i : It) (w : World) : Ct P 81 #[itc i] w [] (fun r L => r = .bool (badI i) ∧ L = []) := by
  have ht : ∀ {p : Bool}, p = badI i → (Value.bool p = .bool (badI i)) := fun h => by rw [h]
  refine Ct.of_body (rs := [.tmp 2]) (N := 31) (L := []) Try.func81 rfl rfl rfl (by kernel_rfl) rfl (Mem.refl w) ?_
  refine HW.seq (HW.region [(0, .ef), (1, .st)] rfl rfl ?_)
  refine Plan.boxA rfl rfl rfl fun b1 => ?_
  refine Plan.assign (v := .bool _) rfl rfl rfl ?_
  refine Plan.done ?_
  refine HW.seq (HW.region [(0, .st), (1, .st), (2, .st), (3, .st), (4, .st), (5, .st), (6, .st), (7, .st), (8, .st), (9, .st), (10, .st), (11, .st), (12, .st), (13, .st), (14, .st), (15, .st), (16, .st), (17, .st), (18, .st), (19, .st), (20, .st), (21, .st), (22, .st), (23, .st), (24, .st), (25, .st), (26, .st), (27, .st), (28, .st)] rfl rfl ?_)
  refine Plan.fieldAddr rfl rfl fldItem0 rfl ?_
  refine Plan.load (v := .int _ _) rfl rfl aggI rfl (Sees.one 0 rfl rfl) ?_
  refine Plan.cmp2 rfl rfl rfl rfl rfl (fun h5 => ?_) (fun h5 => ?_)
  · replace h5 := of_decide_eq_true h5
    refine Plan.move (v := .bool _) rfl rfl rfl ?_
    refine Plan.no rfl rfl ?_
    refine Plan.no rfl rfl ?_
    refine Plan.no rfl rfl ?_
    refine Plan.pick (v := .bool _) rfl rfl rfl rfl ?_
    refine Plan.move (v := .bool _) rfl rfl rfl ?_
    refine Plan.no rfl rfl ?_
    refine Plan.no rfl rfl ?_
    refine Plan.no rfl rfl ?_
    refine Plan.pick (v := .bool _) rfl rfl rfl rfl ?_
    refine Plan.move (v := .bool _) rfl rfl rfl ?_
    refine Plan.no rfl rfl ?_
    refine Plan.no rfl rfl ?_
    refine Plan.no rfl rfl ?_
    refine Plan.pick (v := .bool _) rfl rfl rfl rfl ?_
    refine Plan.move (v := .bool _) rfl rfl rfl ?_
    refine Plan.no rfl rfl ?_
    refine Plan.no rfl rfl ?_
    refine Plan.no rfl rfl ?_
    refine Plan.pick (v := .bool _) rfl rfl rfl rfl ?_
    refine Plan.move (v := .bool _) rfl rfl rfl ?_
    refine Plan.no rfl rfl ?_
    refine Plan.no rfl rfl ?_
    refine Plan.no rfl rfl ?_
    refine Plan.pick (v := .bool _) rfl rfl rfl rfl ?_
    refine Plan.assign (v := .bool _) rfl rfl rfl ?_
    refine Plan.done ?_
    exact HW.ret ⟨rfl, _, [], .tmp rfl .nil, List.nil_sublist _, ht (by simp [badI]; omega), rfl⟩
  · replace h5 := of_decide_eq_false h5
    refine Plan.move (v := .bool _) rfl rfl rfl ?_
    refine Plan.fieldAddr rfl rfl fldItem0 rfl ?_
    refine Plan.load (v := .int _ _) rfl rfl aggI rfl (Sees.one 0 rfl rfl) ?_
    refine Plan.cmp2 rfl rfl rfl rfl rfl (fun h9 => ?_) (fun h9 => ?_)
    · replace h9 := of_decide_eq_true h9
      refine Plan.pick (v := .bool _) rfl rfl rfl rfl ?_
      refine Plan.move (v := .bool _) rfl rfl rfl ?_
      refine Plan.no rfl rfl ?_
      refine Plan.no rfl rfl ?_
      refine Plan.no rfl rfl ?_
      refine Plan.pick (v := .bool _) rfl rfl rfl rfl ?_
      refine Plan.move (v := .bool _) rfl rfl rfl ?_
      refine Plan.no rfl rfl ?_
      refine Plan.no rfl rfl ?_
      refine Plan.no rfl rfl ?_
      refine Plan.pick (v := .bool _) rfl rfl rfl rfl ?_
      refine Plan.move (v := .bool _) rfl rfl rfl ?_
      refine Plan.no rfl rfl ?_
      refine Plan.no rfl rfl ?_
      refine Plan.no rfl rfl ?_
      refine Plan.pick (v := .bool _) rfl rfl rfl rfl ?_
      refine Plan.move (v := .bool _) rfl rfl rfl ?_
      refine Plan.no rfl rfl ?_
      refine Plan.no rfl rfl ?_
      refine Plan.no rfl rfl ?_
      refine Plan.pick (v := .bool _) rfl rfl rfl rfl ?_
      refine Plan.assign (v := .bool _) rfl rfl rfl ?_
      refine Plan.done ?_
      exact HW.ret ⟨rfl, _, [], .tmp rfl .nil, List.nil_sublist _, ht (by simp [badI]; omega), rfl⟩
    · replace h9 := of_decide_eq_false h9
      refine Plan.pick (v := .bool _) rfl rfl rfl rfl ?_
      refine Plan.move (v := .bool _) rfl rfl rfl ?_
      refine Plan.fieldAddr rfl rfl fldItem1 rfl ?_
      refine Plan.load (v := .int _ _) rfl rfl aggI rfl (Sees.one 0 rfl rfl) ?_
      refine Plan.cmp2 rfl rfl rfl rfl rfl (fun h14 => ?_) (fun h14 => ?_)
      · replace h14 := of_decide_eq_true h14
        refine Plan.pick (v := .bool _) rfl rfl rfl rfl ?_
        refine Plan.move (v := .bool _) rfl rfl rfl ?_
        refine Plan.no rfl rfl ?_
        refine Plan.no rfl rfl ?_
        refine Plan.no rfl rfl ?_
        refine Plan.pick (v := .bool _) rfl rfl rfl rfl ?_
        refine Plan.move (v := .bool _) rfl rfl rfl ?_
        refine Plan.no rfl rfl ?_
        refine Plan.no rfl rfl ?_
        refine Plan.no rfl rfl ?_
        refine Plan.pick (v := .bool _) rfl rfl rfl rfl ?_
        refine Plan.move (v := .bool _) rfl rfl rfl ?_
        refine Plan.no rfl rfl ?_
        refine Plan.no rfl rfl ?_
        refine Plan.no rfl rfl ?_
        refine Plan.pick (v := .bool _) rfl rfl rfl rfl ?_
        refine Plan.assign (v := .bool _) rfl rfl rfl ?_
        refine Plan.done ?_
        exact HW.ret ⟨rfl, _, [], .tmp rfl .nil, List.nil_sublist _, ht (by simp [badI]; omega), rfl⟩
      · replace h14 := of_decide_eq_false h14
        refine Plan.pick (v := .bool _) rfl rfl rfl rfl ?_
        refine Plan.move (v := .bool _) rfl rfl rfl ?_
        refine Plan.fieldAddr rfl rfl fldItem1 rfl ?_
        refine Plan.load (v := .int _ _) rfl rfl aggI rfl (Sees.one 0 rfl rfl) ?_
        refine Plan.cmp2 rfl rfl rfl rfl rfl (fun h19 => ?_) (fun h19 => ?_)
        · replace h19 := of_decide_eq_true h19
          refine Plan.pick (v := .bool _) rfl rfl rfl rfl ?_
          refine Plan.move (v := .bool _) rfl rfl rfl ?_
          refine Plan.no rfl rfl ?_
          refine Plan.no rfl rfl ?_
          refine Plan.no rfl rfl ?_
          refine Plan.pick (v := .bool _) rfl rfl rfl rfl ?_
          refine Plan.move (v := .bool _) rfl rfl rfl ?_
          refine Plan.no rfl rfl ?_
          refine Plan.no rfl rfl ?_
          refine Plan.no rfl rfl ?_
          refine Plan.pick (v := .bool _) rfl rfl rfl rfl ?_
          refine Plan.assign (v := .bool _) rfl rfl rfl ?_
          refine Plan.done ?_
          exact HW.ret ⟨rfl, _, [], .tmp rfl .nil, List.nil_sublist _, ht (by simp [badI]; omega), rfl⟩
        · replace h19 := of_decide_eq_false h19
          refine Plan.pick (v := .bool _) rfl rfl rfl rfl ?_
          refine Plan.move (v := .bool _) rfl rfl rfl ?_
          refine Plan.fieldAddr rfl rfl fldItem2 rfl ?_
          refine Plan.load (v := .int _ _) rfl rfl aggI rfl (Sees.one 0 rfl rfl) ?_
          refine Plan.cmp2 rfl rfl rfl rfl rfl (fun h24 => ?_) (fun h24 => ?_)
          · replace h24 := of_decide_eq_true h24
            refine Plan.pick (v := .bool _) rfl rfl rfl rfl ?_
            refine Plan.move (v := .bool _) rfl rfl rfl ?_
            refine Plan.no rfl rfl ?_
            refine Plan.no rfl rfl ?_
            refine Plan.no rfl rfl ?_
            refine Plan.pick (v := .bool _) rfl rfl rfl rfl ?_
            refine Plan.assign (v := .bool _) rfl rfl rfl ?_
            refine Plan.done ?_
            exact HW.ret ⟨rfl, _, [], .tmp rfl .nil, List.nil_sublist _, ht (by simp [badI]; omega), rfl⟩
          · replace h24 := of_decide_eq_false h24
            refine Plan.pick (v := .bool _) rfl rfl rfl rfl ?_
            refine Plan.move (v := .bool _) rfl rfl rfl ?_
            refine Plan.fieldAddr rfl rfl fldItem2 rfl ?_
            refine Plan.load (v := .int _ _) rfl rfl aggI rfl (Sees.one 0 rfl rfl) ?_
            refine Plan.cmp2 rfl rfl rfl rfl rfl (fun h29 => ?_) (fun h29 => ?_)
            · replace h29 := of_decide_eq_true h29
              refine Plan.pick (v := .bool _) rfl rfl rfl rfl ?_
              refine Plan.assign (v := .bool _) rfl rfl rfl ?_
              refine Plan.done ?_
              exact HW.ret ⟨rfl, _, [], .tmp rfl .nil, List.nil_sublist _, ht (by simp [badI]; omega), rfl⟩
            · replace h29 := of_decide_eq_false h29
              refine Plan.pick (v := .bool _) rfl rfl rfl rfl ?_
              refine Plan.assign (v := .bool _) rfl rfl rfl ?_
              refine Plan.done ?_
              exact HW.ret ⟨rfl, _, [], .tmp rfl .nil, List.nil_sublist _, ht (by simp [badI]; omega), rfl⟩

theorem fits_ct (i : It) (x y : Nat) (w : World) : Ct P 82 #[itc i, int x, int y] w [] (fun r L => r = .bool (fitsI i x y) ∧ L = []) := by
  have ht : ∀ {p : Bool}, p = fitsI i x y → (Value.bool p = .bool (fitsI i x y)) := fun h => by rw [h]
  refine Ct.of_body (rs := [.tmp 6]) (N := 17) (L := []) Try.func82 rfl rfl rfl (by kernel_rfl) rfl (Mem.refl w) ?_
  refine HW.seq (HW.region [(0, .ef), (1, .st)] rfl rfl ?_)
  refine Plan.boxA rfl rfl rfl fun b3 => ?_
  refine Plan.assign (v := .bool _) rfl rfl rfl ?_
  refine Plan.done ?_
  refine HW.seq (HW.region [(0, .st), (1, .st), (2, .st), (3, .st), (4, .st), (5, .st), (6, .st), (7, .st), (8, .st), (9, .st), (10, .st)] rfl rfl ?_)
  refine Plan.fieldAddr rfl rfl fldItem0 rfl ?_
  refine Plan.load (v := .int _ _) rfl rfl aggI rfl (Sees.one 0 rfl rfl) ?_
  refine Plan.move (v := .int _ _) rfl rfl rfl ?_
  refine Plan.cmp2 rfl rfl rfl rfl rfl (fun h10 => ?_) (fun h10 => ?_)
  · replace h10 := of_decide_eq_true h10
    refine Plan.move (v := .bool _) rfl rfl rfl ?_
    refine Plan.fieldAddr rfl rfl fldItem1 rfl ?_
    refine Plan.load (v := .int _ _) rfl rfl aggI rfl (Sees.one 0 rfl rfl) ?_
    refine Plan.move (v := .int _ _) rfl rfl rfl ?_
    refine Plan.cmp2 rfl rfl rfl rfl rfl (fun h15 => ?_) (fun h15 => ?_)
    · replace h15 := of_decide_eq_true h15
      refine Plan.pick (v := .bool _) rfl rfl rfl rfl ?_
      refine Plan.assign (v := .bool _) rfl rfl rfl ?_
      refine Plan.done ?_
      exact HW.ret ⟨rfl, _, [], .tmp rfl .nil, List.nil_sublist _, ht (by simp [fitsI]; omega), rfl⟩
    · replace h15 := of_decide_eq_false h15
      refine Plan.pick (v := .bool _) rfl rfl rfl rfl ?_
      refine Plan.assign (v := .bool _) rfl rfl rfl ?_
      refine Plan.done ?_
      exact HW.ret ⟨rfl, _, [], .tmp rfl .nil, List.nil_sublist _, ht (by simp [fitsI]; omega), rfl⟩
  · replace h10 := of_decide_eq_false h10
    refine Plan.move (v := .bool _) rfl rfl rfl ?_
    refine Plan.no rfl rfl ?_
    refine Plan.no rfl rfl ?_
    refine Plan.no rfl rfl ?_
    refine Plan.no rfl rfl ?_
    refine Plan.pick (v := .bool _) rfl rfl rfl rfl ?_
    refine Plan.assign (v := .bool _) rfl rfl rfl ?_
    refine Plan.done ?_
    exact HW.ret ⟨rfl, _, [], .tmp rfl .nil, List.nil_sublist _, ht (by simp [fitsI]; omega), rfl⟩

theorem sheet_ct (x y : Int) (A : Option Addr) (l : List It) (n c : Nat) (w : World) (hp : Rd encT 3 w A l) (hn : n = l.length) (hlen : l.length ≤ 1000000) :
    Ct P 47 #[int x, int y, .slice A n c] w [] (fun r L => r = int (sheetF x y l) ∧ L = []) := by
  subst hn
  have ht : ∀ {p : Int}, p = sheetF x y l → (int p = int (sheetF x y l)) := fun h => by rw [h]
  refine Ct.of_body (rs := [.tmp 6]) (N := 26) (L := []) Try.func47 rfl rfl rfl (by kernel_rfl) rfl (Mem.refl w) ?_
  refine HW.seq (HW.region [(0, .st)] rfl rfl ?_)
  refine Plan.assign (v := .int _ _) rfl rfl rfl ?_
  refine Plan.done ?_
  refine HW.seq ?_
  refine HW.seq (HW.region [(0, .st), (1, .st), (2, .st), (3, .st), (4, .st), (5, .st), (6, .st), (7, .st), (8, .st), (9, .st), (10, .st), (11, .st), (12, .st), (13, .st)] rfl rfl ?_)
  refine Plan.move (v := .int _ _) rfl rfl rfl ?_
  refine Plan.cmp2 rfl rfl rfl rfl rfl (fun h8 => ?_) (fun h8 => ?_)
  · replace h8 := of_decide_eq_true h8
    refine Plan.move (v := .bool _) rfl rfl rfl ?_
    refine Plan.no rfl rfl ?_
    refine Plan.no rfl rfl ?_
    refine Plan.pick (v := .bool _) rfl rfl rfl rfl ?_
    refine Plan.move (v := .bool _) rfl rfl rfl ?_
    refine Plan.no rfl rfl ?_
    refine Plan.no rfl rfl ?_
    refine Plan.pick (v := .bool _) rfl rfl rfl rfl ?_
    refine Plan.move (v := .bool _) rfl rfl rfl ?_
    refine Plan.no rfl rfl ?_
    refine Plan.no rfl rfl ?_
    refine Plan.pick (v := .bool _) rfl rfl rfl rfl ?_
    refine Plan.done ?_
    refine HW.cond_true rfl ?_
    refine HW.seq (HW.region [(0, .st)] rfl rfl ?_)
    refine Plan.assign (v := .int _ _) rfl rfl rfl ?_
    refine Plan.done ?_
    exact HW.ret ⟨rfl, _, [], .tmp rfl .nil, List.nil_sublist _, ht (by rw [sheetF, if_pos (by omega)]), rfl⟩
  · replace h8 := of_decide_eq_false h8
    refine Plan.move (v := .bool _) rfl rfl rfl ?_
    refine Plan.move (v := .int _ _) rfl rfl rfl ?_
    refine Plan.cmp2 rfl rfl rfl rfl rfl (fun h11 => ?_) (fun h11 => ?_)
    · replace h11 := of_decide_eq_true h11
      refine Plan.pick (v := .bool _) rfl rfl rfl rfl ?_
      refine Plan.move (v := .bool _) rfl rfl rfl ?_
      refine Plan.no rfl rfl ?_
      refine Plan.no rfl rfl ?_
      refine Plan.pick (v := .bool _) rfl rfl rfl rfl ?_
      refine Plan.move (v := .bool _) rfl rfl rfl ?_
      refine Plan.no rfl rfl ?_
      refine Plan.no rfl rfl ?_
      refine Plan.pick (v := .bool _) rfl rfl rfl rfl ?_
      refine Plan.done ?_
      refine HW.cond_true rfl ?_
      refine HW.seq (HW.region [(0, .st)] rfl rfl ?_)
      refine Plan.assign (v := .int _ _) rfl rfl rfl ?_
      refine Plan.done ?_
      exact HW.ret ⟨rfl, _, [], .tmp rfl .nil, List.nil_sublist _, ht (by rw [sheetF, if_pos (by omega)]), rfl⟩
    · replace h11 := of_decide_eq_false h11
      refine Plan.pick (v := .bool _) rfl rfl rfl rfl ?_
      refine Plan.move (v := .bool _) rfl rfl rfl ?_
      refine Plan.move (v := .int _ _) rfl rfl rfl ?_
      refine Plan.cmp2 rfl rfl rfl rfl rfl (fun h15 => ?_) (fun h15 => ?_)
      · replace h15 := of_decide_eq_true h15
        refine Plan.pick (v := .bool _) rfl rfl rfl rfl ?_
        refine Plan.move (v := .bool _) rfl rfl rfl ?_
        refine Plan.no rfl rfl ?_
        refine Plan.no rfl rfl ?_
        refine Plan.pick (v := .bool _) rfl rfl rfl rfl ?_
        refine Plan.done ?_
        refine HW.cond_true rfl ?_
        refine HW.seq (HW.region [(0, .st)] rfl rfl ?_)
        refine Plan.assign (v := .int _ _) rfl rfl rfl ?_
        refine Plan.done ?_
        exact HW.ret ⟨rfl, _, [], .tmp rfl .nil, List.nil_sublist _, ht (by rw [sheetF, if_pos (by omega)]), rfl⟩
      · replace h15 := of_decide_eq_false h15
        refine Plan.pick (v := .bool _) rfl rfl rfl rfl ?_
        refine Plan.move (v := .bool _) rfl rfl rfl ?_
        refine Plan.move (v := .int _ _) rfl rfl rfl ?_
        refine Plan.cmp2 rfl rfl rfl rfl rfl (fun h19 => ?_) (fun h19 => ?_)
        · replace h19 := of_decide_eq_true h19
          refine Plan.pick (v := .bool _) rfl rfl rfl rfl ?_
          refine Plan.done ?_
          refine HW.cond_true rfl ?_
          refine HW.seq (HW.region [(0, .st)] rfl rfl ?_)
          refine Plan.assign (v := .int _ _) rfl rfl rfl ?_
          refine Plan.done ?_
          exact HW.ret ⟨rfl, _, [], .tmp rfl .nil, List.nil_sublist _, ht (by rw [sheetF, if_pos (by omega)]), rfl⟩
        · replace h19 := of_decide_eq_false h19
          refine Plan.pick (v := .bool _) rfl rfl rfl rfl ?_
          refine Plan.done ?_
          refine HW.cond_false rfl ?_
          refine HW.skip ?_
          refine HW.seq ?_
          refine HW.seq (HW.region [(0, .st), (1, .st), (2, .st)] rfl rfl ?_)
          refine Plan.move (v := .slice _ _ _) rfl rfl rfl ?_
          refine Plan.len rfl rfl slapiItem rfl ?_
          refine Plan.cmp2 rfl rfl rfl rfl rfl (fun h23 => ?_) (fun h23 => ?_)
          · replace h23 := of_decide_eq_true h23
            refine Plan.done ?_
            refine HW.cond_true rfl ?_
            refine HW.seq (HW.region [(0, .st)] rfl rfl ?_)
            refine Plan.assign (v := .int _ _) rfl rfl rfl ?_
            refine Plan.done ?_
            exact HW.ret ⟨rfl, _, [], .tmp rfl .nil, List.nil_sublist _, ht (by rw [sheetF, if_neg (by omega), if_pos (by omega)]), rfl⟩
          · replace h23 := of_decide_eq_false h23
            refine Plan.done ?_
            refine HW.cond_false rfl ?_
            refine HW.skip ?_
            refine HW.seq ?_
            refine HW.seq (HW.region [(0, .st), (1, .ef)] rfl rfl ?_)
            refine Plan.move (v := .slice _ _ _) rfl rfl rfl ?_
            refine Plan.callF [] 0 rfl rfl rfl (.inl rfl) (by simp) (fun w hm => containsFuncT_ct A l c _ #[] badI w (hp.mem hm) (by omega) (fun q _ L' w' _ => sheet1_ct q w')) ?_   -- slices.ContainsFunc[[]tinplate/api.Item,tinplate/api.Item]
            rintro v Ln ⟨rfl, rfl⟩
            refine Plan.splitB (fun h25 => ?_) (fun h25 => ?_)
            · skip
              refine Plan.done ?_
              refine HW.cond_true rfl ?_
              refine HW.seq (HW.region [(0, .st)] rfl rfl ?_)
              refine Plan.assign (v := .int _ _) rfl rfl rfl ?_
              refine Plan.done ?_
              exact HW.ret ⟨rfl, _, [], .tmp rfl .nil, List.nil_sublist _, ht (by rw [sheetF, if_neg (by omega), if_neg (by omega), if_pos h25]), rfl⟩
            · skip
              refine Plan.done ?_
              refine HW.cond_false rfl ?_
              refine HW.skip ?_
              refine HW.seq (HW.region [(0, .st)] rfl rfl ?_)
              refine Plan.assign (v := .int _ _) rfl rfl rfl ?_
              refine Plan.done ?_
              exact HW.ret ⟨rfl, _, [], .tmp rfl .nil, List.nil_sublist _, ht (by rw [sheetF, if_neg (by omega), if_neg (by omega), if_neg (by rw [h25]; decide)]), rfl⟩

end Go.Proofs.Ytjmklbkcpjmcaaa.V
