/-
  slices.IndexFunc and slices.ContainsFunc at vectors, for any predicate with a contract; the predicates of package convex.
-/
import Derived.Test.YtjmklbkcpjmcaaaV0
import Derived.Test.YtjmklbkcpjmcaaaH0
namespace Go.Proofs.Ytjmklbkcpjmcaaa.V
open Go Go.RowKit Go.Proofs.Ytjmklbkcpjmcaaa.H
set_option linter.unusedVariables false
set_option linter.unusedSimpArgs false

abbrev Pt := Int × Int
abbrev enc (p : Pt) : List Value := [int p.1, int p.2]
abbrev vc (p : Pt) : Value := vec p.1 p.2

def idxI (p : Pt → Bool) (ps : List Pt) : Int := match ps.findIdx? p with | some i => (i : Int) | none => -1

theorem idxI_some {p : Pt → Bool} {ps : List Pt} {k : Nat} (hk : k < ps.length) (h : p ps[k] = true) (hno : ∀ j (hj : j < ps.length), j < k → p ps[j] = false) : idxI p ps = k := by
  have : ps.findIdx? p = some k := List.findIdx?_eq_some_iff_getElem.2 ⟨hk, h, fun j hj => by simp [hno j (by omega) hj]⟩
  unfold idxI
  rw [this]

theorem idxI_none {p : Pt → Bool} {ps : List Pt} (hno : ∀ j (hj : j < ps.length), p ps[j] = false) : idxI p ps = -1 := by
  have : ps.findIdx? p = none := List.findIdx?_eq_none_iff.2 fun x hx => by
    obtain ⟨j, hj, rfl⟩ := List.getElem_of_mem hx
    exact hno j hj
  unfold idxI
  rw [this]

theorem idxI_any (p : Pt → Bool) (ps : List Pt) : decide (idxI p ps ≥ 0) = ps.any p := by
  unfold idxI
  cases h : ps.findIdx? p with
  | none =>
    have := List.findIdx?_eq_none_iff.1 h
    have h2 : ps.any p = false := by rw [List.any_eq_false]; intro x hx; simp [this x hx]
    rw [h2]; decide
  | some i =>
    obtain ⟨hi, hp, _⟩ := List.findIdx?_eq_some_iff_getElem.1 h
    have h2 : ps.any p = true := List.any_eq_true.2 ⟨ps[i], List.getElem_mem hi, hp⟩
    rw [h2]; simp

/-- a function value that answers a bool of a vector -/
def PredC (fid : Nat) (cap : Array Value) (p : Pt → Bool) (w : World) (q : Pt) : Prop :=
  ∀ L w', Mem w [] L w' → Ct P fid ([vc q] ++ cap.toList).toArray w' [] (fun v L => v = .bool (p q) ∧ L = [])

theorem indexFunc_ct (A : Option Addr) (ps : List Pt) (c : Nat) (fid : Nat) (cap : Array Value) (p : Pt → Bool) (w : World) (hp : Rd enc 2 w A ps) (hlen : ps.length ≤ 1099511627776)
    (hpred : ∀ q ∈ ps, PredC fid cap p w q) :
    Ct P 102 #[.slice A ps.length c, .func (.func fid) #[] cap] w [] (fun v L => v = int (idxI p ps) ∧ L = []) := by
  refine Ct.of_body (rs := [.tmp 4]) (N := 19) (L := []) Try.func102 rfl rfl rfl (by kernel_rfl) rfl (Mem.refl w) ?_
  refine HW.seq (HW.region [(0, .st)] rfl rfl ?_)
  refine Plan.assign (v := .int _ _) rfl rfl rfl ?_
  refine Plan.done ?_
  refine HW.seq ?_
  refine HW.seq (HW.region [(0, .st), (1, .st), (2, .st)] rfl rfl ?_)
  refine Plan.move (v := .slice _ _ _) rfl rfl rfl ?_
  refine Plan.len rfl rfl slV rfl ?_
  refine Plan.move (v := .int _ _) rfl rfl rfl ?_
  refine Plan.done ?_
  refine HW.block ?_
  refine HW.loopC (G := Nat) [4, 5, 8, 9, 10, 11, 12, 13, 14, 15, 16, 17, 18] (fun g => [(8, int g)]) (fun g => g ≤ ps.length ∧ ∀ j (h : j < ps.length), j < g → p ps[j] = false) (fun g => ps.length - g) (0) ⟨rfl, trivial⟩ (⟨Nat.zero_le _, fun j h hj => absurd hj (Nat.not_lt_zero _)⟩) (fun g F hok => ?_)
  obtain ⟨hk, hno⟩ := hok
  refine HW.seq (HW.region [(0, .st)] rfl rfl ?_)
  refine Plan.cmp2 rfl rfl rfl rfl rfl (fun h9 => ?_) (fun h9 => ?_)
  · replace h9 := of_decide_eq_true h9
    have hlt : g < ps.length := by omega
    obtain ⟨ad, rfl, hl⟩ := hp g hlt
    refine Plan.done ?_
    refine HW.seq ?_
    refine HW.cond_true rfl ?_
    refine HW.skip ?_
    refine HW.seq ?_
    refine HW.block ?_
    refine HW.seq (HW.region [(0, .st), (1, .st)] rfl rfl ?_)
    refine Plan.move (v := .int _ _) rfl rfl rfl ?_
    refine Plan.assign (v := .int _ _) rfl rfl rfl ?_
    refine Plan.done ?_
    refine HW.seq (HW.region [(0, .st), (1, .st), (2, .st), (3, .st), (4, .st), (5, .ef)] rfl rfl ?_)
    refine Plan.move (v := .func _ _ _) rfl rfl rfl ?_
    refine Plan.move (v := .slice _ _ _) rfl rfl rfl ?_
    refine Plan.move (v := .int _ _) rfl rfl rfl ?_
    refine Plan.indexN g rfl rfl slV sizV rfl rfl rfl rfl hlt ?_
    refine Plan.loadAgg rfl rfl aggV sizV rfl (Sees.old hl (by simp)) rfl ?_
    refine Plan.callV [] 0 rfl rfl rfl rfl (.inl rfl) (by simp) (R := fun v L => v = .bool (p ps[g]) ∧ L = []) (fun w' hm => hpred ps[g] (List.getElem_mem hlt) _ w' hm) ?_
    rintro v Ln ⟨rfl, rfl⟩
    refine Plan.splitB (fun h16 => ?_) (fun h16 => ?_)
    · skip
      refine Plan.done ?_
      refine HW.cond_true rfl ?_
      refine HW.seq (HW.region [(0, .st), (1, .st)] rfl rfl ?_)
      refine Plan.move (v := .int _ _) rfl rfl rfl ?_
      refine Plan.assign (v := .int _ _) rfl rfl rfl ?_
      refine Plan.done ?_
      exact HW.ret ⟨rfl, _, [], .tmp rfl .nil, List.nil_sublist _, by rw [idxI_some hlt h16 hno]; rfl, rfl⟩
    · skip
      refine Plan.done ?_
      refine HW.cond_false rfl ?_
      refine HW.skip ?_
      refine HW.region [(0, .st), (1, .st)] rfl rfl ?_
      refine Plan.arithI rfl rfl rfl rfl rfl (by omega) ?_
      refine Plan.move (v := .int _ _) rfl rfl rfl ?_
      refine Plan.done ?_
      exact ⟨g + 1, by simp only; omega, ⟨hlt, fun j hj hjk => by rcases Nat.lt_succ_iff_lt_or_eq.1 hjk with h | rfl <;> (first | exact hno j hj h | exact h16)⟩, rfl, (Ent.sub (.refl _)), (by repeat (first | exact Agree.havoc _ _ _ | refine Agree.updN ?_ | refine Agree.upd rfl ?_ | refine Agree.updL rfl ?_ | refine Agree.havoc2 rfl ?_)), ⟨rfl, trivial⟩⟩
  · replace h9 := of_decide_eq_false h9
    refine Plan.done ?_
    refine HW.seq ?_
    refine HW.cond_false rfl ?_
    refine HW.exit ?_
    refine HW.seq (HW.region [(0, .st)] rfl rfl ?_)
    refine Plan.assign (v := .int _ _) rfl rfl rfl ?_
    refine Plan.done ?_
    exact HW.ret ⟨rfl, _, [], .tmp rfl .nil, List.nil_sublist _, by rw [idxI_none (fun j hj => hno j hj (by omega))]; rfl, rfl⟩

theorem containsFunc_ct (A : Option Addr) (ps : List Pt) (c : Nat) (fid : Nat) (cap : Array Value) (p : Pt → Bool) (w : World) (hp : Rd enc 2 w A ps) (hlen : ps.length ≤ 1099511627776)
    (hpred : ∀ q ∈ ps, PredC fid cap p w q) :
    Ct P 77 #[.slice A ps.length c, .func (.func fid) #[] cap] w [] (fun v L => v = .bool (ps.any p) ∧ L = []) := by
  have e := idxI_any p ps
  refine Ct.of_body (rs := [.tmp 4]) (N := 9) (L := []) Try.func77 rfl rfl rfl (by kernel_rfl) rfl (Mem.refl w) ?_
  refine HW.seq (HW.region [(0, .st)] rfl rfl ?_)
  refine Plan.assign (v := .bool _) rfl rfl rfl ?_
  refine Plan.done ?_
  refine HW.seq (HW.region [(0, .st), (1, .st), (2, .ef), (3, .st), (4, .st)] rfl rfl ?_)
  refine Plan.move (v := .slice _ _ _) rfl rfl rfl ?_
  refine Plan.move (v := .func _ _ _) rfl rfl rfl ?_
  refine Plan.callF [] 0 rfl rfl rfl (.inl rfl) (by simp) (fun w hm => indexFunc_ct A ps c fid cap p w (hp.mem hm) hlen (fun q hq L w' hm' => hpred q hq (L ++ []) w' (Mem.call (L1 := []) (L2 := []) hm hm' (by simp)))) ?_   -- slices.IndexFunc[[]tinplate/api.Vec,tinplate/api.Vec]
  rintro v Ln ⟨rfl, rfl⟩
  refine Plan.cmp2 rfl rfl rfl rfl rfl (fun h8 => ?_) (fun h8 => ?_)
  · replace h8 := of_decide_eq_true h8
    refine Plan.assign (v := .bool _) rfl rfl rfl ?_
    refine Plan.done ?_
    exact HW.ret ⟨rfl, _, [], .tmp rfl .nil, List.nil_sublist _, by rw [← e, decide_eq_true h8]; rfl, rfl⟩
  · replace h8 := of_decide_eq_false h8
    refine Plan.assign (v := .bool _) rfl rfl rfl ?_
    refine Plan.done ?_
    exact HW.ret ⟨rfl, _, [], .tmp rfl .nil, List.nil_sublist _, by rw [← e, decide_eq_false h8]; rfl, rfl⟩

end Go.Proofs.Ytjmklbkcpjmcaaa.V
