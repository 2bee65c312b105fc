/-
  slices.Grow and slices.Concat at cuts.
-/
import Derived.Test.YtjmklbkcpjmcaaaB6
import Derived.Test.YtjmklbkcpjmcaaaH5
namespace Go.Proofs.Ytjmklbkcpjmcaaa.V
open Go Go.RowKit Go.Proofs.Ytjmklbkcpjmcaaa.H Go.Proofs.Ytjmklbkcpjmcaaa.LL
set_option linter.unusedVariables false
set_option linter.unusedSimpArgs false

theorem grow_ct (n : Nat) (w : World) (h0 : 0 < n) (hn : n ≤ 1000000) : Ct P 106 #[.slice none 0 0, int n] w [] (fun r L => ∃ b c', r = slv (some b) 0 c' ∧ L = [ownC (some b) c' []]) := by
  refine Ct.of_body (rs := [.tmp 4]) (N := 27) (L := []) Try.func106 rfl rfl rfl (by kernel_rfl) rfl (Mem.refl w) ?_
  refine HW.seq (HW.region [(0, .st)] rfl rfl ?_)
  refine Plan.assign (v := .slice _ _ _) rfl rfl rfl ?_
  refine Plan.done ?_
  refine HW.seq ?_
  refine HW.seq (HW.region [(0, .st), (1, .st)] rfl rfl ?_)
  refine Plan.move (v := .int _ _) rfl rfl rfl ?_
  refine Plan.cmp2 rfl rfl rfl rfl rfl (fun h6 => ?_) (fun h6 => ?_)
  · replace h6 := of_decide_eq_true h6
    omega
  · replace h6 := of_decide_eq_false h6
    refine Plan.done ?_
    refine HW.cond_false rfl ?_
    refine HW.skip ?_
    refine HW.seq ?_
    refine HW.seq (HW.region [(0, .st), (1, .st), (2, .st), (3, .st), (4, .st), (5, .st), (6, .st), (7, .st)] rfl rfl ?_)
    refine Plan.move (v := .int _ _) rfl rfl rfl ?_
    refine Plan.move (v := .slice _ _ _) rfl rfl rfl ?_
    refine Plan.cap rfl rfl slapiCut rfl ?_
    refine Plan.move (v := .slice _ _ _) rfl rfl rfl ?_
    refine Plan.len rfl rfl slapiCut rfl ?_
    refine Plan.arithI rfl rfl rfl rfl rfl (by omega) ?_
    refine Plan.arithI rfl rfl rfl rfl rfl (by omega) ?_
    refine Plan.assign (v := .int _ _) rfl rfl rfl ?_
    refine Plan.done ?_
    refine HW.seq (HW.region [(0, .st), (1, .st)] rfl rfl ?_)
    refine Plan.move (v := .int _ _) rfl rfl rfl ?_
    refine Plan.cmp2 rfl rfl rfl rfl rfl (fun h16 => ?_) (fun h16 => ?_)
    · replace h16 := of_decide_eq_true h16
      refine Plan.done ?_
      refine HW.cond_true rfl ?_
      refine HW.region [(0, .st), (1, .st), (2, .st), (3, .st), (4, .st), (5, .ef), (6, .st), (7, .st), (8, .st), (9, .st)] rfl rfl ?_
      refine Plan.move (v := .slice _ _ _) rfl rfl rfl ?_
      refine Plan.move (v := .slice _ _ _) rfl rfl rfl ?_
      refine Plan.cap rfl rfl slapiCut rfl ?_
      refine Plan.sliceHi (0) rfl rfl slapiCut sizapiCut rfl rfl rfl (Nat.le_refl _) ?_
      refine Plan.move (v := .int _ _) rfl rfl rfl ?_
      refine Plan.appendZ0 (n := n) enc rfl rfl slapiCut undI infapiCut rfl (by decide) rfl rfl (h0) (by omega) (by simp only [maxLen]; omega) fun b22 c22 hc22 => ?_
      refine Plan.move (v := .slice _ _ _) rfl rfl rfl ?_
      refine Plan.len rfl rfl slapiCut rfl ?_
      refine Plan.sliceHi (0) rfl rfl slapiCut sizapiCut rfl rfl rfl (Nat.zero_le _) ?_
      refine Plan.assign (v := .slice _ _ _) rfl rfl rfl ?_
      refine Plan.done ?_
      refine HW.seq (HW.region [(0, .st), (1, .st)] rfl rfl ?_)
      refine Plan.move (v := .slice _ _ _) rfl rfl rfl ?_
      refine Plan.assign (v := .slice _ _ _) rfl rfl rfl ?_
      refine Plan.done ?_
      exact HW.ret ⟨rfl, _, [ownC (some b22) c22 []], .tmp rfl .nil, .refl _, b22, c22, rfl, rfl⟩
    · replace h16 := of_decide_eq_false h16
      omega

/-- a slice of cuts that came in, by its place -/
structure CutS where
  A : Option Addr
  c : Nat
  xs : List Ct2
abbrev encS (s : CutS) : List Value := [.slice s.A s.xs.length s.c]

structure CcG where
  k : Nat
  o : Option Nat
  c : Nat

/-- all cuts of the parts -/
def allC (ss : List CutS) : List Ct2 := ss.flatMap (·.xs)
theorem allC_take {ss : List CutS} {k : Nat} (hk : k < ss.length) : allC (ss.take (k + 1)) = allC (ss.take k) ++ ss[k].xs := by
  unfold allC
  rw [List.take_add_one, List.getElem?_eq_getElem hk, List.flatMap_append]
  simp
theorem allC_le (ss : List CutS) (k : Nat) : (allC (ss.take k)).length ≤ (allC ss).length := by
  have h : allC ss = allC (ss.take k) ++ allC (ss.drop k) := by
    unfold allC; rw [← List.flatMap_append, List.take_append_drop]
  rw [h, List.length_append]
  omega

theorem concat_ct (A : Option Addr) (n c : Nat) (ss : List CutS) (w : World) (h : Rd encS 1 w A ss) (hn : n = ss.length) (hin : ∀ s ∈ ss, Rd enc 2 w s.A s.xs) (hne : ∀ s ∈ ss, 0 < s.xs.length) (hs0 : 0 < ss.length) (hs1 : ss.length ≤ 1000000) (ht : (allC ss).length ≤ 1000000) :
    Ct P 83 #[.slice A n c] w [] (fun r L => ∃ o c', r = slv o (allC ss).length c' ∧ L = [ownC o c' (allC ss)]) := by
  subst hn
  refine Ct.of_body (rs := [.tmp 2]) (N := 36) (L := []) Try.func83 rfl rfl rfl (by kernel_rfl) rfl (Mem.refl w) ?_
  refine HW.seq (HW.region [(0, .st)] rfl rfl ?_)
  refine Plan.assign (v := .slice _ _ _) rfl rfl rfl ?_
  refine Plan.done ?_
  refine HW.seq (HW.region [(0, .st)] rfl rfl ?_)
  refine Plan.assign (v := .int _ _) rfl rfl rfl ?_
  refine Plan.done ?_
  refine HW.seq ?_
  refine HW.seq (HW.region [(0, .st), (1, .st), (2, .st)] rfl rfl ?_)
  refine Plan.move (v := .slice _ _ _) rfl rfl rfl ?_
  refine Plan.len rfl rfl slSsapiCut rfl ?_
  refine Plan.move (v := .int _ _) rfl rfl rfl ?_
  refine Plan.done ?_
  refine HW.block ?_
  refine HW.loopC (G := Nat) [3, 5, 11, 12, 13, 14, 15, 16, 17, 18, 19, 20, 21, 22] (fun g => [(3, int (allC (ss.take g)).length), (11, int g)]) (fun g => g ≤ ss.length) (fun g => ss.length - g) (0) ⟨rfl, rfl, trivial⟩ (Nat.zero_le _) (fun g F hok => ?_)
  refine HW.seq (HW.region [(0, .st)] rfl rfl ?_)
  refine Plan.cmp2 rfl rfl rfl rfl rfl (fun h12 => ?_) (fun h12 => ?_)
  · replace h12 := of_decide_eq_true h12
    have hlt : g < ss.length := by omega
    obtain ⟨ad, rfl, hl1⟩ := h g hlt
    have hb1 := allC_le ss (g + 1)
    have hb2 : (allC (ss.take (g + 1))).length = (allC (ss.take g)).length + ss[g].xs.length := by rw [allC_take hlt, List.length_append]
    refine Plan.done ?_
    refine HW.seq ?_
    refine HW.cond_true rfl ?_
    refine HW.skip ?_
    refine HW.seq ?_
    refine HW.block ?_
    refine HW.seq (HW.region [(0, .st), (1, .st), (2, .st)] rfl rfl ?_)
    refine Plan.indexN (g) rfl rfl slSsapiCut sizSsapiCut rfl rfl rfl rfl (hlt) ?_
    refine Plan.load (v := .slice _ _ _) rfl rfl agg_api_Cut rfl (Sees.old hl1 (by simp)) ?_
    refine Plan.assign (v := .slice _ _ _) rfl rfl rfl ?_
    refine Plan.done ?_
    refine HW.seq (HW.region [(0, .st), (1, .st), (2, .st), (3, .st), (4, .st)] rfl rfl ?_)
    refine Plan.move (v := .int _ _) rfl rfl rfl ?_
    refine Plan.move (v := .slice _ _ _) rfl rfl rfl ?_
    refine Plan.len rfl rfl slapiCut rfl ?_
    refine Plan.arithI rfl rfl rfl rfl rfl (by omega) ?_
    refine Plan.assign (v := .int _ _) rfl rfl rfl ?_
    refine Plan.done ?_
    refine HW.seq (HW.region [(0, .st), (1, .st)] rfl rfl ?_)
    refine Plan.move (v := .int _ _) rfl rfl rfl ?_
    refine Plan.cmp2 rfl rfl rfl rfl rfl (fun h20 => ?_) (fun h20 => ?_)
    · replace h20 := of_decide_eq_true h20
      omega
    · replace h20 := of_decide_eq_false h20
      refine Plan.done ?_
      refine HW.cond_false rfl ?_
      refine HW.skip ?_
      refine HW.region [(0, .st), (1, .st)] rfl rfl ?_
      refine Plan.arithI rfl rfl rfl rfl rfl (by omega) ?_
      refine Plan.move (v := .int _ _) rfl rfl rfl ?_
      refine Plan.done ?_
      exact ⟨g + 1, by simp only; omega, hlt, rfl, Ent.sub (.refl _), (by repeat (first | exact Agree.havoc _ _ _ | refine Agree.updN ?_ | refine Agree.upd rfl ?_ | refine Agree.updL rfl ?_ | refine Agree.havoc2 rfl ?_)), ⟨int_eq (by rw [hb2]; push_cast; rfl), rfl, trivial⟩⟩
  · replace h12 := of_decide_eq_false h12
    have hge : ss.take g = ss := List.take_of_length_le (by omega)
    rw [hge]
    have hpos : 0 < (allC ss).length := by
      have e1 := allC_take (ss := ss) (k := 0) hs0
      have e2 := allC_le ss 1
      rw [e1, List.length_append] at e2
      have e3 := hne ss[0] (List.getElem_mem hs0)
      omega
    refine Plan.done ?_
    refine HW.seq ?_
    refine HW.cond_false rfl ?_
    refine HW.exit ?_
    refine HW.seq (HW.region [(0, .st), (1, .ef), (2, .st)] rfl rfl ?_)
    refine Plan.move (v := .int _ _) rfl rfl rfl ?_
    refine Plan.callF [] 0 rfl rfl rfl (.inl rfl) (by simp) (fun w hm => grow_ct (allC ss).length w hpos ht) ?_   -- slices.Grow[[]tinplate/api.Cut,tinplate/api.Cut]
    rintro v Ln ⟨b1, c1, rfl, rfl⟩
    refine Plan.assign (v := .slice _ _ _) rfl rfl rfl ?_
    refine Plan.done ?_
    refine HW.seq ?_
    refine HW.seq (HW.region [(0, .st), (1, .st), (2, .st)] rfl rfl ?_)
    refine Plan.move (v := .slice _ _ _) rfl rfl rfl ?_
    refine Plan.len rfl rfl slSsapiCut rfl ?_
    refine Plan.move (v := .int _ _) rfl rfl rfl ?_
    refine Plan.done ?_
    refine HW.block ?_
    refine HW.loopL (G := CcG) [6, 8, 27, 28, 29, 30, 31, 32, 33, 34] (fun g => [(6, slv g.o (allC (ss.take g.k)).length g.c), (27, int g.k)]) (fun g => [ownC g.o g.c (allC (ss.take g.k))]) (fun g => g.k ≤ ss.length) (fun g => ss.length - g.k) (⟨0, some b1, c1⟩) ⟨rfl, rfl, trivial⟩ (fun w' hm => hm) (Nat.zero_le _) (fun g F hok => ?_)
    obtain ⟨k, o, c2⟩ := g
    simp only at hok
    dsimp only
    refine HW.seq (HW.region [(0, .st)] rfl rfl ?_)
    refine Plan.cmp2 rfl rfl rfl rfl rfl (fun h28 => ?_) (fun h28 => ?_)
    · replace h28 := of_decide_eq_true h28
      have hlt : k < ss.length := by omega
      obtain ⟨ad, rfl, hl1⟩ := h k hlt
      have hmem : ss[k] ∈ ss := List.getElem_mem hlt
      obtain ⟨a1, ha1, _⟩ := hin _ hmem 0 (hne _ hmem)
      have hl2 : Lies w (ad.add (k * 1)) [.slice (some a1) ss[k].xs.length ss[k].c] := by rw [← ha1]; exact hl1
      have hr2 : Rd enc 2 w (some a1) ss[k].xs := by rw [← ha1]; exact hin _ hmem
      have hb1 := allC_le ss (k + 1)
      have hb2 : (allC (ss.take (k + 1))).length = (allC (ss.take k)).length + ss[k].xs.length := by rw [allC_take hlt, List.length_append]
      refine Plan.done ?_
      refine HW.seq ?_
      refine HW.cond_true rfl ?_
      refine HW.skip ?_
      refine HW.seq ?_
      refine HW.block ?_
      refine HW.seq (HW.region [(0, .st), (1, .st), (2, .st)] rfl rfl ?_)
      refine Plan.indexN (k) rfl rfl slSsapiCut sizSsapiCut rfl rfl rfl rfl (hlt) ?_
      refine Plan.load (v := .slice _ _ _) rfl rfl agg_api_Cut rfl (Sees.old hl2 (by simp)) ?_
      refine Plan.assign (v := .slice _ _ _) rfl rfl rfl ?_
      refine Plan.done ?_
      refine HW.region [(0, .st), (1, .st), (2, .ef), (3, .st)] rfl rfl ?_
      refine Plan.move (v := .slice _ _ _) rfl rfl rfl ?_
      refine Plan.move (v := .slice _ _ _) rfl rfl rfl ?_
      refine Plan.append (enc := enc) (sz := 2) (ys := ss[k].xs) (0) rfl rfl hDn slapiCut infapiCut rfl (by decide) enc2 enc1 rfl rfl rfl rfl rfl (Sees.rdAll enc2 hr2 rfl) (by omega) (by omega) fun o33 c33 => ?_
      refine Plan.assign (v := .slice _ _ _) rfl rfl rfl ?_
      refine Plan.done ?_
      refine HW.region [(0, .st), (1, .st)] rfl rfl ?_
      refine Plan.arithI rfl rfl rfl rfl rfl (by omega) ?_
      refine Plan.move (v := .int _ _) rfl rfl rfl ?_
      refine Plan.done ?_
      exact ⟨⟨k + 1, o33, c33⟩, by dsimp only; omega, hlt, rfl, (fun w' hm => by
          show Mem _ _ [ownC o33 c33 (allC (ss.take (k + 1)))] w'
          rw [allC_take hlt]
          exact hm), (by repeat (first | exact Agree.havoc _ _ _ | refine Agree.updN ?_ | refine Agree.upd rfl ?_ | refine Agree.updL rfl ?_ | refine Agree.havoc2 rfl ?_)), ⟨slv_eq (by rw [hb2]), rfl, trivial⟩⟩
    · replace h28 := of_decide_eq_false h28
      have hge : ss.take k = ss := List.take_of_length_le (by omega)
      rw [hge]
      refine Plan.done ?_
      refine HW.seq ?_
      refine HW.cond_false rfl ?_
      refine HW.exit ?_
      refine HW.seq (HW.region [(0, .st), (1, .st)] rfl rfl ?_)
      refine Plan.move (v := .slice _ _ _) rfl rfl rfl ?_
      refine Plan.assign (v := .slice _ _ _) rfl rfl rfl ?_
      refine Plan.done ?_
      exact HW.ret ⟨rfl, _, [ownC o c2 (allC ss)], .tmp rfl .nil, .refl _, o, c2, rfl, rfl⟩

end Go.Proofs.Ytjmklbkcpjmcaaa.V
