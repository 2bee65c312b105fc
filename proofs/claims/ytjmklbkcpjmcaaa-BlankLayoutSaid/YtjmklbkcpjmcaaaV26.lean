/-
  The specification's moved, flipped, far, wrap, sums (package tinplateref03).
-/
import Derived.Test.YtjmklbkcpjmcaaaV23
import Derived.Test.YtjmklbkcpjmcaaaW1
namespace Go.Proofs.Ytjmklbkcpjmcaaa.V
open Go Go.RowKit Go.Proofs.Ytjmklbkcpjmcaaa.H
set_option linter.unusedVariables false
set_option linter.unusedSimpArgs false

theorem Sees.ownGet {J : Jd} {L : List Res} {o : Option Nat} {c : Nat} {xs : List Pt} (j : Nat) (hj : L[j]? = some (ownV o c xs)) (b : Nat) (hb : o = some b) (m : Nat) (x : Pt) (hx : xs[m]? = some x) : Sees J L ((⟨b, 0, none⟩ : Addr).add (m * 2)) (enc x) := by
  obtain ⟨hm, rfl⟩ := List.getElem?_eq_some_iff.1 hx
  exact Sees.own j enc2 hj b hb m hm

theorem vNeg_eq (q : Pt) : ((-q.1, -q.2) : Pt) = vNeg q := by unfold vNeg; exact Prod.ext (by simp only; omega) (by simp only; omega)

theorem rflipped_ct (A : Option Addr) (ps : List Pt) (n c : Nat) (w : World) (hp : Rd enc 2 w A ps) (hn : n = ps.length) (hlen : ps.length ≤ 1000000) (hbd : ∀ q ∈ ps, Bd2 100000 q.1 q.2) :
    Ct P 118 #[.slice A n c] w [] (fun v L => ∃ o c', v = slv o ps.length c' ∧ L = [ownV o c' (ps.map vNeg)]) := by
  subst hn
  refine Ct.of_body (rs := [.tmp 2]) (N := 28) (L := []) Try.func118 rfl rfl rfl (by kernel_rfl) rfl (Mem.refl w) ?_
  refine HW.seq (HW.region [(0, .st)] rfl rfl ?_)
  refine Plan.assign (v := .slice _ _ _) rfl rfl rfl ?_
  refine Plan.done ?_
  refine HW.seq (HW.region [(0, .st)] rfl rfl ?_)
  refine Plan.assign (v := .slice _ _ _) rfl rfl rfl ?_
  refine Plan.done ?_
  refine HW.seq ?_
  refine HW.seq (HW.region [(0, .st)] rfl rfl ?_)
  refine Plan.assign (v := .int _ _) rfl rfl rfl ?_
  refine Plan.done ?_
  refine HW.block ?_
  refine HW.loopL (G := MpG) [3, 4, 5, 6, 7, 8, 9, 10, 11, 12, 13, 14, 15, 16, 17, 18, 19, 20, 21, 22, 23, 24, 25, 26] (fun g => [(4, int g.k), (3, slv g.o g.k g.c)]) (fun g => [ownV g.o g.c ((ps.take g.k).map vNeg)]) (fun g => g.k ≤ ps.length) (fun g => ps.length - g.k) (⟨0, none, 0⟩) ⟨rfl, rfl, trivial⟩ (fun w' hm => hm.addNil) (Nat.zero_le _) (fun g F hok => ?_)
  obtain ⟨k, o, c1⟩ := g
  simp only at hok
  dsimp only
  refine HW.seq ?_
  refine HW.seq (HW.region [(0, .st), (1, .st), (2, .st), (3, .st)] rfl rfl ?_)
  refine Plan.move (v := .int _ _) rfl rfl rfl ?_
  refine Plan.move (v := .slice _ _ _) rfl rfl rfl ?_
  refine Plan.len rfl rfl slV rfl ?_
  refine Plan.cmp2 rfl rfl rfl rfl rfl (fun h8 => ?_) (fun h8 => ?_)
  · replace h8 := of_decide_eq_true h8
    have hlt : k < ps.length := by omega
    obtain ⟨ad, rfl, hl1⟩ := hp k hlt
    obtain ⟨⟨_, _⟩, ⟨_, _⟩⟩ := hbd _ (List.getElem_mem hlt)
    refine Plan.done ?_
    refine HW.cond_true rfl ?_
    refine HW.skip ?_
    refine HW.seq ?_
    refine HW.block ?_
    refine HW.region_any [15] [(0, .st), (1, .st), (2, .st), (3, .st), (4, .st), (5, .st), (6, .st), (7, .st), (8, .st), (9, .st), (10, .st), (11, .st), (12, .st), (13, .st), (14, .ef), (15, .ef), (16, .st)] mix (by kernel_rfl) (fun _ _ _ _ _ h => h) (zeros rfl) ?_
    refine Plan.move (v := .slice _ _ _) rfl rfl rfl ?_
    refine Plan.move (v := .slice _ _ _) rfl rfl rfl ?_
    refine Plan.move (v := .int _ _) rfl rfl rfl ?_
    refine Plan.indexN (k) rfl rfl slV sizV rfl rfl rfl rfl (hlt) ?_
    refine Plan.fieldAddr rfl rfl fldV0 rfl ?_
    refine Plan.load (v := .int _ _) rfl rfl aggI rfl (Sees.fx (Sees.old hl1 (by simp))) ?_
    refine Plan.neg rfl rfl rfl (by omega) ?_
    refine Plan.move (v := .slice _ _ _) rfl rfl rfl ?_
    refine Plan.move (v := .int _ _) rfl rfl rfl ?_
    refine Plan.indexN (k) rfl rfl slV sizV rfl rfl rfl rfl (hlt) ?_
    refine Plan.fieldAddr rfl rfl fldV1 rfl ?_
    refine Plan.load (v := .int _ _) rfl rfl aggI rfl (Sees.fy (Sees.old hl1 (by simp))) ?_
    refine Plan.neg rfl rfl rfl (by omega) ?_
    refine Plan.build rfl rfl rfl (bldV _ _) ?_
    refine Plan.buildOwn (xs := [(-ps[k].1, -ps[k].2)]) (enc := enc) (sz := 2) rfl rfl rfl (bs1 _ _) rfl rfl (by simp) rfl fun b25 => ?_
    refine Plan.append (enc := enc) (sz := 2) (ys := [(-ps[k].1, -ps[k].2)]) (1) rfl rfl (hDs (by decide)) slV infV rfl (by decide) enc2 enc1 rfl rfl (by simp; omega) rfl rfl (Sees.ownAll 0 rfl b25 rfl) (by simp; omega) (by simp; omega) fun o26 c26 => ?_
    refine Plan.assign (v := .slice _ _ _) rfl rfl rfl ?_
    refine Plan.done ?_
    refine HW.region [(0, .st), (1, .st), (2, .st)] rfl rfl ?_
    refine Plan.move (v := .int _ _) rfl rfl rfl ?_
    refine Plan.arithI rfl rfl rfl rfl rfl (by omega) ?_
    refine Plan.assign (v := .int _ _) rfl rfl rfl ?_
    refine Plan.done ?_
    exact ⟨⟨k + 1, o26, c26⟩, by simp only; omega, hlt, rfl, (fun w' hm => by
        have e : (ps.take (k + 1)).map vNeg = (ps.take k).map vNeg ++ [(-ps[k].1, -ps[k].2)] := by rw [List.take_add_one, List.getElem?_eq_getElem hlt, List.map_append, vNeg_eq]; rfl
        show Mem _ _ [ownV o26 c26 ((ps.take (k + 1)).map vNeg)] w'
        rw [e]
        exact hm.sub (.cons _ (.refl _))), (by repeat (first | exact Agree.havoc _ _ _ | refine Agree.updN ?_ | refine Agree.upd rfl ?_ | refine Agree.updL rfl ?_ | refine Agree.havoc2 rfl ?_)), ⟨rfl, slv_eq (by simp; omega), trivial⟩⟩
  · replace h8 := of_decide_eq_false h8
    have hke : k = ps.length := by omega
    rw [hke, List.take_length]
    refine Plan.done ?_
    refine HW.cond_false rfl ?_
    refine HW.exit ?_
    refine HW.seq (HW.region [(0, .st), (1, .st)] rfl rfl ?_)
    refine Plan.move (v := .slice _ _ _) rfl rfl rfl ?_
    refine Plan.assign (v := .slice _ _ _) rfl rfl rfl ?_
    refine Plan.done ?_
    exact HW.ret ⟨rfl, _, [ownV o c1 (ps.map vNeg)], .tmp rfl .nil, List.Sublist.refl _, o, c1, rfl, rfl⟩

theorem rmoved_ct (A : Option Addr) (ps : List Pt) (v : Pt) (n c : Nat) (w : World) (hp : Rd enc 2 w A ps) (hn : n = ps.length) (h0 : 0 < ps.length) (hlen : ps.length ≤ 1000000) (hbd : ∀ q ∈ ps, Bd2 100000 q.1 q.2) (hv : Bd2 100000 v.1 v.2) :
    Ct P 98 #[.slice A n c, vc v] w [] (fun r L => ∃ o c' b, r = slv o ps.length c' ∧ L = [ownV o c' (ps.map (vAdd v))] ∧ o = some b) := by
  subst hn
  obtain ⟨⟨_, _⟩, ⟨_, _⟩⟩ := hv
  refine Ct.of_body (rs := [.tmp 4]) (N := 34) (L := []) Try.func98 rfl rfl rfl (by kernel_rfl) rfl (Mem.refl w) ?_
  refine HW.seq (HW.region [(0, .ef), (1, .st)] rfl rfl ?_)
  refine Plan.boxA rfl rfl rfl fun b3 => ?_
  refine Plan.assign (v := .slice _ _ _) rfl rfl rfl ?_
  refine Plan.done ?_
  refine HW.seq (HW.region [(0, .st)] rfl rfl ?_)
  refine Plan.assign (v := .slice _ _ _) rfl rfl rfl ?_
  refine Plan.done ?_
  refine HW.seq ?_
  refine HW.seq (HW.region [(0, .st)] rfl rfl ?_)
  refine Plan.assign (v := .int _ _) rfl rfl rfl ?_
  refine Plan.done ?_
  refine HW.block ?_
  refine HW.loopL (G := MpG) [5, 6, 7, 8, 9, 10, 11, 12, 13, 14, 15, 16, 17, 18, 19, 20, 21, 22, 23, 24, 25, 26, 27, 28, 29, 30, 31, 32] (fun g => [(6, int g.k), (5, slv g.o g.k g.c)]) (fun g => [ownV g.o g.c ((ps.take g.k).map (vAdd v)), Res.blk b3 #[int v.1, int v.2] 52]) (fun g => g.k ≤ ps.length) (fun g => ps.length - g.k) (⟨0, none, 0⟩) ⟨rfl, rfl, trivial⟩ (fun w' hm => hm.addNil) (Nat.zero_le _) (fun g F hok => ?_)
  obtain ⟨k, o, c1⟩ := g
  simp only at hok
  dsimp only
  refine HW.seq ?_
  refine HW.seq (HW.region [(0, .st), (1, .st), (2, .st), (3, .st)] rfl rfl ?_)
  refine Plan.move (v := .int _ _) rfl rfl rfl ?_
  refine Plan.move (v := .slice _ _ _) rfl rfl rfl ?_
  refine Plan.len rfl rfl slV rfl ?_
  refine Plan.cmp2 rfl rfl rfl rfl rfl (fun h10 => ?_) (fun h10 => ?_)
  · replace h10 := of_decide_eq_true h10
    have hlt : k < ps.length := by omega
    obtain ⟨ad, rfl, hl1⟩ := hp k hlt
    obtain ⟨⟨_, _⟩, ⟨_, _⟩⟩ := hbd _ (List.getElem_mem hlt)
    refine Plan.done ?_
    refine HW.cond_true rfl ?_
    refine HW.skip ?_
    refine HW.seq ?_
    refine HW.block ?_
    refine HW.region_any [19] [(0, .st), (1, .st), (2, .st), (3, .st), (4, .st), (5, .st), (6, .st), (7, .st), (8, .st), (9, .st), (10, .st), (11, .st), (12, .st), (13, .st), (14, .st), (15, .st), (16, .st), (17, .st), (18, .ef), (19, .ef), (20, .st)] mix (by kernel_rfl) (fun _ _ _ _ _ h => h) (zeros rfl) ?_
    refine Plan.move (v := .slice _ _ _) rfl rfl rfl ?_
    refine Plan.move (v := .slice _ _ _) rfl rfl rfl ?_
    refine Plan.move (v := .int _ _) rfl rfl rfl ?_
    refine Plan.indexN (k) rfl rfl slV sizV rfl rfl rfl rfl (hlt) ?_
    refine Plan.fieldAddr rfl rfl fldV0 rfl ?_
    refine Plan.load (v := .int _ _) rfl rfl aggI rfl (Sees.fx (Sees.old hl1 (by simp))) ?_
    refine Plan.fieldAddr rfl rfl fldV0 rfl ?_
    refine Plan.load (v := .int _ _) rfl rfl aggI rfl (Sees.one 1 rfl rfl) ?_
    refine Plan.arithI rfl rfl rfl rfl rfl (by omega) ?_
    refine Plan.move (v := .slice _ _ _) rfl rfl rfl ?_
    refine Plan.move (v := .int _ _) rfl rfl rfl ?_
    refine Plan.indexN (k) rfl rfl slV sizV rfl rfl rfl rfl (hlt) ?_
    refine Plan.fieldAddr rfl rfl fldV1 rfl ?_
    refine Plan.load (v := .int _ _) rfl rfl aggI rfl (Sees.fy (Sees.old hl1 (by simp))) ?_
    refine Plan.fieldAddr rfl rfl fldV1 rfl ?_
    refine Plan.load (v := .int _ _) rfl rfl aggI rfl (Sees.one 1 rfl rfl) ?_
    refine Plan.arithI rfl rfl rfl rfl rfl (by omega) ?_
    refine Plan.build rfl rfl rfl (bldV _ _) ?_
    refine Plan.buildOwn (xs := [vAdd v ps[k]]) (enc := enc) (sz := 2) rfl rfl rfl (bs1 _ _) rfl rfl (by simp) rfl fun b31 => ?_
    refine Plan.append (enc := enc) (sz := 2) (ys := [vAdd v ps[k]]) (1) rfl rfl (hDs (by decide)) slV infV rfl (by decide) enc2 enc1 rfl rfl (by simp; omega) rfl rfl (Sees.ownAll 0 rfl b31 rfl) (by simp; omega) (by simp; omega) fun o32 c32 => ?_
    refine Plan.assign (v := .slice _ _ _) rfl rfl rfl ?_
    refine Plan.done ?_
    refine HW.region [(0, .st), (1, .st), (2, .st)] rfl rfl ?_
    refine Plan.move (v := .int _ _) rfl rfl rfl ?_
    refine Plan.arithI rfl rfl rfl rfl rfl (by omega) ?_
    refine Plan.assign (v := .int _ _) rfl rfl rfl ?_
    refine Plan.done ?_
    exact ⟨⟨k + 1, o32, c32⟩, by simp only; omega, hlt, rfl, (fun w' hm => by
        have e : (ps.take (k + 1)).map (vAdd v) = (ps.take k).map (vAdd v) ++ [vAdd v ps[k]] := by rw [List.take_add_one, List.getElem?_eq_getElem hlt, List.map_append]; rfl
        show Mem _ _ [ownV o32 c32 ((ps.take (k + 1)).map (vAdd v)), Res.blk b3 #[int v.1, int v.2] 52] w'
        rw [e]
        exact hm.sub (.cons _ (.refl _))), (by repeat (first | exact Agree.havoc _ _ _ | refine Agree.updN ?_ | refine Agree.upd rfl ?_ | refine Agree.updL rfl ?_ | refine Agree.havoc2 rfl ?_)), ⟨rfl, slv_eq (by simp; omega), trivial⟩⟩
  · replace h10 := of_decide_eq_false h10
    have hke : k = ps.length := by omega
    rw [hke, List.take_length]
    refine Plan.done ?_
    refine HW.cond_false rfl ?_
    refine HW.exit ?_
    refine HW.pure (p := ∃ b, o = some b) (fun w' hm => Res.own_some (hm.res _ List.mem_cons_self) (by simpa using h0)) fun hb => ?_
    obtain ⟨b, rfl⟩ := hb
    refine HW.seq (HW.region [(0, .st), (1, .st)] rfl rfl ?_)
    refine Plan.move (v := .slice _ _ _) rfl rfl rfl ?_
    refine Plan.assign (v := .slice _ _ _) rfl rfl rfl ?_
    refine Plan.done ?_
    exact HW.ret ⟨rfl, _, [ownV (some b) c1 (ps.map (vAdd v))], .tmp rfl .nil, .cons_cons _ (List.nil_sublist _), some b, c1, b, rfl, rfl, rfl⟩

theorem far_ct (a b : Pt) (w : World) (ha : Bd2 100000 a.1 a.2) (hb : Bd2 100000 b.1 b.2) : Ct P 132 #[vc a, vc b] w [] (fun r L => r = int (farI a b) ∧ L = []) := by
  obtain ⟨⟨_, _⟩, ⟨_, _⟩⟩ := ha
  obtain ⟨⟨_, _⟩, ⟨_, _⟩⟩ := hb
  have m1 := mul_bd (a := a.1 - b.1) (b := a.1 - b.1) (N := 200000) (M := 200000) ⟨by omega, by omega⟩ ⟨by omega, by omega⟩
  have m2 := mul_bd (a := a.2 - b.2) (b := a.2 - b.2) (N := 200000) (M := 200000) ⟨by omega, by omega⟩ ⟨by omega, by omega⟩
  refine Ct.of_body (rs := [.tmp 4]) (N := 28) (L := []) Try.func132 rfl rfl rfl (by kernel_rfl) rfl (Mem.refl w) ?_
  refine HW.seq (HW.region [(0, .ef), (1, .ef), (2, .st)] rfl rfl ?_)
  refine Plan.boxA rfl rfl rfl fun b2 => ?_
  refine Plan.boxA rfl rfl rfl fun b3 => ?_
  refine Plan.assign (v := .int _ _) rfl rfl rfl ?_
  refine Plan.done ?_
  refine HW.seq (HW.region [(0, .st), (1, .st), (2, .st), (3, .st), (4, .st), (5, .st), (6, .st), (7, .st), (8, .st), (9, .st), (10, .st), (11, .st), (12, .st), (13, .st), (14, .st), (15, .st), (16, .st), (17, .st), (18, .st), (19, .st), (20, .st), (21, .st), (22, .st), (23, .st)] rfl rfl ?_)
  refine Plan.fieldAddr rfl rfl fldV0 rfl ?_
  refine Plan.load (v := .int _ _) rfl rfl aggI rfl (Sees.one 1 rfl rfl) ?_
  refine Plan.fieldAddr rfl rfl fldV0 rfl ?_
  refine Plan.load (v := .int _ _) rfl rfl aggI rfl (Sees.one 0 rfl rfl) ?_
  refine Plan.arithI rfl rfl rfl rfl rfl (by omega) ?_
  refine Plan.fieldAddr rfl rfl fldV0 rfl ?_
  refine Plan.load (v := .int _ _) rfl rfl aggI rfl (Sees.one 1 rfl rfl) ?_
  refine Plan.fieldAddr rfl rfl fldV0 rfl ?_
  refine Plan.load (v := .int _ _) rfl rfl aggI rfl (Sees.one 0 rfl rfl) ?_
  refine Plan.arithI rfl rfl rfl rfl rfl (by omega) ?_
  refine Plan.arithI rfl rfl rfl rfl rfl (by omega) ?_
  refine Plan.fieldAddr rfl rfl fldV1 rfl ?_
  refine Plan.load (v := .int _ _) rfl rfl aggI rfl (Sees.one 1 rfl rfl) ?_
  refine Plan.fieldAddr rfl rfl fldV1 rfl ?_
  refine Plan.load (v := .int _ _) rfl rfl aggI rfl (Sees.one 0 rfl rfl) ?_
  refine Plan.arithI rfl rfl rfl rfl rfl (by omega) ?_
  refine Plan.fieldAddr rfl rfl fldV1 rfl ?_
  refine Plan.load (v := .int _ _) rfl rfl aggI rfl (Sees.one 1 rfl rfl) ?_
  refine Plan.fieldAddr rfl rfl fldV1 rfl ?_
  refine Plan.load (v := .int _ _) rfl rfl aggI rfl (Sees.one 0 rfl rfl) ?_
  refine Plan.arithI rfl rfl rfl rfl rfl (by omega) ?_
  refine Plan.arithI rfl rfl rfl rfl rfl (by omega) ?_
  refine Plan.arithI rfl rfl rfl rfl rfl (by omega) ?_
  refine Plan.assign (v := .int _ _) rfl rfl rfl ?_
  refine Plan.done ?_
  exact HW.ret ⟨rfl, _, [], .tmp rfl .nil, List.nil_sublist _, rfl, rfl⟩

structure WlG where
  k : Nat
  low : Pt
structure WoG where
  j : Nat
  o : Option Nat
  c : Nat

theorem take_vt {S : List Pt} {j : Nat} (h : j < S.length) : S.take (j + 1) = S.take j ++ [vt S j] := by
  rw [List.take_add_one, List.getElem?_eq_getElem h, vt_lt h, nth_get h]; rfl

set_option maxRecDepth 10000 in
set_option maxHeartbeats 4000000 in
theorem wrap_ct (A : Option Addr) (l S : List Pt) (n c : Nat) (w : World) (hp : Rd enc 2 w A l) (hn : n = l.length) (hlen : l.length ≤ 1000000) (hbd : ∀ q ∈ l, Bd2 100000 q.1 q.2) (hH : HullOf l S) (hSl : S.length ≤ l.length) :
    Ct P 121 #[.slice A n c] w [] (fun r L => ∃ b c', r = slv (some b) S.length c' ∧ L = [ownV (some b) c' S]) := by
  subst hn
  have hN := near_of_bd hbd
  have lS := hH.sr.len
  have h0 : 0 < l.length := by omega
  obtain ⟨a, rfl, l0⟩ := hp 0 h0
  refine Ct.of_body (rs := [.tmp 2]) (N := 105) (L := []) Try.func121 rfl rfl rfl (by kernel_rfl) rfl (Mem.refl w) ?_
  refine HW.seq (HW.region [(0, .st)] rfl rfl ?_)
  refine Plan.assign (v := .slice _ _ _) rfl rfl rfl ?_
  refine Plan.done ?_
  refine HW.seq ?_
  refine HW.seq (HW.region [(0, .st), (1, .st), (2, .st)] rfl rfl ?_)
  refine Plan.move (v := .slice _ _ _) rfl rfl rfl ?_
  refine Plan.len rfl rfl slV rfl ?_
  refine Plan.cmp2 rfl rfl rfl rfl rfl (fun h12 => ?_) (fun h12 => ?_)
  · replace h12 := of_decide_eq_true h12
    omega
  · replace h12 := of_decide_eq_false h12
    refine Plan.done ?_
    refine HW.cond_false rfl ?_
    refine HW.skip ?_
    refine HW.seq (HW.region [(0, .st), (1, .st), (2, .st), (3, .al), (4, .ef)] rfl rfl ?_)
    refine Plan.move (v := .slice _ _ _) rfl rfl rfl ?_
    refine Plan.indexN (0) rfl rfl slV sizV rfl rfl rfl rfl (h0) ?_
    refine Plan.loadAgg rfl rfl aggV sizV rfl (Sees.old l0 (by simp)) rfl ?_
    refine Plan.alloc rfl zerV fun b3 => ?_
    refine Plan.storeA 0 rfl rfl hDn sizV rfl rfl rfl rfl rfl rfl ?_
    refine Plan.done ?_
    refine HW.seq ?_
    refine HW.seq (HW.region [(0, .st)] rfl rfl ?_)
    refine Plan.assign (v := .int _ _) rfl rfl rfl ?_
    refine Plan.done ?_
    refine HW.block ?_
    refine HW.loopL (G := WlG) [4, 16, 17, 18, 19, 20, 21, 22, 23, 24, 25, 26, 27, 28, 29, 30, 31] (fun g => [(4, int g.k)]) (fun g => [Res.blk b3 #[int g.low.1, int g.low.2] 52]) (fun g => g.k ≤ l.length ∧ g.low ∈ l ∧ ∀ j, j < g.k → ¬ lt2 (nth l j) g.low) (fun g => l.length - g.k) (⟨1, l[0]⟩) ⟨rfl, trivial⟩ (Ent.refl _ _) (⟨h0, List.getElem_mem h0, fun j hj => by
          have hj : j < 1 := hj
          have : j = 0 := by omega
          subst this
          rw [nth_get h0]
          show ¬ lt2 l[0] l[0]
          unfold lt2
          omega⟩) (fun g F hok => ?_)
    obtain ⟨k, low⟩ := g
    obtain ⟨hk, hmem, hall⟩ := hok
    simp only at hk hmem hall
    dsimp only
    refine HW.seq ?_
    refine HW.seq (HW.region [(0, .st), (1, .st), (2, .st), (3, .st)] rfl rfl ?_)
    refine Plan.move (v := .int _ _) rfl rfl rfl ?_
    refine Plan.move (v := .slice _ _ _) rfl rfl rfl ?_
    refine Plan.len rfl rfl slV rfl ?_
    refine Plan.cmp2 rfl rfl rfl rfl rfl (fun h19 => ?_) (fun h19 => ?_)
    · replace h19 := of_decide_eq_true h19
      have hlt : k < l.length := by omega
      obtain ⟨a1, e1, l1⟩ := hp k hlt
      obtain rfl : a = a1 := by injection e1
      refine Plan.done ?_
      refine HW.cond_true rfl ?_
      refine HW.skip ?_
      refine HW.seq ?_
      refine HW.block ?_
      refine HW.seq (HW.region_any [] [(0, .st), (1, .st), (2, .st), (3, .st), (4, .st), (5, .ef)] mix (by kernel_rfl) (fun _ _ _ _ _ h => h) (zeros rfl) ?_)
      refine Plan.move (v := .slice _ _ _) rfl rfl rfl ?_
      refine Plan.move (v := .int _ _) rfl rfl rfl ?_
      refine Plan.indexN (k) rfl rfl slV sizV rfl rfl rfl rfl (hlt) ?_
      refine Plan.loadAgg rfl rfl aggV sizV rfl (Sees.old l1 (by simp)) rfl ?_
      refine Plan.loadAll 0 rfl rfl aggV sizV rfl rfl rfl ?_
      refine Plan.callF [] 0 rfl rfl rfl (.inl rfl) (by simp) (fun w hm => Lower_ct _ _ w) ?_   -- tinplate/tinplateref03.Lower
      rintro v Ln ⟨rfl, rfl⟩
      refine Plan.splitB (fun h27 => ?_) (fun h27 => ?_)
      · skip
        refine Plan.done ?_
        refine HW.cond_true rfl ?_
        refine HW.region [(0, .st), (1, .st), (2, .st), (3, .st), (4, .ef)] rfl rfl ?_
        refine Plan.move (v := .slice _ _ _) rfl rfl rfl ?_
        refine Plan.move (v := .int _ _) rfl rfl rfl ?_
        refine Plan.indexN (k) rfl rfl slV sizV rfl rfl rfl rfl (hlt) ?_
        refine Plan.loadAgg rfl rfl aggV sizV rfl (Sees.old l1 (by simp)) rfl ?_
        refine Plan.storeA 0 rfl rfl hDn sizV rfl rfl rfl rfl rfl rfl ?_
        refine Plan.done ?_
        refine HW.region [(0, .st), (1, .st), (2, .st)] rfl rfl ?_
        refine Plan.move (v := .int _ _) rfl rfl rfl ?_
        refine Plan.arithI rfl rfl rfl rfl rfl (by omega) ?_
        refine Plan.assign (v := .int _ _) rfl rfl rfl ?_
        refine Plan.done ?_
        exact ⟨⟨k + 1, l[k]⟩, by simp only; omega, ⟨hlt, List.getElem_mem hlt, fun j hj => by
              have h1 := of_decide_eq_true h27
              rcases Nat.lt_succ_iff_lt_or_eq.1 hj with h | rfl
              · have h2 := hall j h
                simp only
                unfold lt2 at *
                omega
              · rw [nth_get hlt]; simp only; unfold lt2; omega⟩, rfl, Ent.sub (.refl _), (by repeat (first | exact Agree.havoc _ _ _ | refine Agree.updN ?_ | refine Agree.upd rfl ?_ | refine Agree.updL rfl ?_ | refine Agree.havoc2 rfl ?_)), ⟨rfl, trivial⟩⟩
      · skip
        refine Plan.done ?_
        refine HW.cond_false rfl ?_
        refine HW.skip ?_
        refine HW.region [(0, .st), (1, .st), (2, .st)] rfl rfl ?_
        refine Plan.move (v := .int _ _) rfl rfl rfl ?_
        refine Plan.arithI rfl rfl rfl rfl rfl (by omega) ?_
        refine Plan.assign (v := .int _ _) rfl rfl rfl ?_
        refine Plan.done ?_
        exact ⟨⟨k + 1, low⟩, by simp only; omega, ⟨hlt, hmem, fun j hj => by
              have h1 := of_decide_eq_false h27
              rcases Nat.lt_succ_iff_lt_or_eq.1 hj with h | rfl
              · exact hall j h
              · rw [nth_get hlt]; exact h1⟩, rfl, Ent.sub (.refl _), (by repeat (first | exact Agree.havoc _ _ _ | refine Agree.updN ?_ | refine Agree.upd rfl ?_ | refine Agree.updL rfl ?_ | refine Agree.havoc2 rfl ?_)), ⟨rfl, trivial⟩⟩
    · replace h19 := of_decide_eq_false h19
      have hlow : low = vt S 0 := by
        rcases hH.low hN hmem with h | h
        · exact h
        · obtain ⟨j, hj, e⟩ := List.getElem_of_mem (hH.sub _ (vt_mem (p := S) (by omega) 0))
          have := hall j (by omega)
          rw [nth_get hj, e] at this
          exact absurd h this
      subst hlow
      have tk1 : S.take 1 = [vt S 0] := by rw [take_vt (by omega)]; rfl
      refine Plan.done ?_
      refine HW.cond_false rfl ?_
      refine HW.exit ?_
      refine HW.seq (HW.region [(0, .st), (1, .ef), (2, .st)] rfl rfl ?_)
      refine Plan.loadAll 0 rfl rfl aggV sizV rfl rfl rfl ?_
      refine Plan.buildOwn (xs := [vt S 0]) (enc := enc) (sz := 2) rfl rfl rfl (bs1 _ _) rfl rfl (by simp) rfl fun b33 => ?_
      refine Plan.assign (v := .slice _ _ _) rfl rfl rfl ?_
      refine Plan.done ?_
      refine HW.seq ?_
      refine HW.block ?_
      refine HW.loopL (G := WoG) [5, 6, 7, 8, 9, 34, 35, 36, 37, 38, 39, 40, 41, 42, 43, 44, 45, 46, 47, 48, 49, 50, 51, 52, 53, 54, 55, 56, 57, 58, 59, 60, 61, 62, 63, 64, 65, 66, 67, 68, 69, 70, 71, 72, 73, 74, 75, 76, 77, 78, 79, 80, 81, 82, 83, 84, 85, 86, 87, 88, 89, 90, 91, 92, 93, 94, 95, 96, 97, 98, 99, 100, 101, 102, 103] (fun g => [(5, slv g.o g.j g.c)]) (fun g => [ownV g.o g.c (S.take g.j), Res.blk b3 #[int (vt S 0).1, int (vt S 0).2] 52]) (fun g => 1 ≤ g.j ∧ g.j ≤ S.length) (fun g => S.length - g.j) (⟨1, some b33, 1⟩) ⟨rfl, trivial⟩ (fun w' hm => by rw [tk1]; exact hm) (⟨Nat.le_refl _, by simp only; omega⟩) (fun g F hok => ?_)
      obtain ⟨j, o, c1⟩ := g
      obtain ⟨hj1, hjn⟩ := hok
      simp only at hj1 hjn
      dsimp only
      refine HW.pure (p := ∃ b, o = some b) (fun w' hm => Res.own_some (hm.res _ List.mem_cons_self) (by simp; omega)) fun hb => ?_
      obtain ⟨bo, rfl⟩ := hb
      have hgt : (S.take j)[j - 1]? = some (vt S (j - 1)) := by rw [List.getElem?_take_of_lt (by omega), List.getElem?_eq_getElem (by omega), vt_lt (by omega), nth_get (by omega)]
      have hbest : Best l (vt S (j - 1)) (vt S j) := by have := hH.best (k := j - 1) (by omega); rwa [show j - 1 + 1 = j by omega] at this
      have ha : Bd2 100000 (vt S (j - 1)).1 (vt S (j - 1)).2 := hbd _ (hH.sub _ (vt_mem (by omega) _))
      refine HW.seq ?_
      refine HW.seq (HW.region [(0, .st), (1, .st), (2, .st), (3, .st), (4, .st)] rfl rfl ?_)
      refine Plan.move (v := .slice _ _ _) rfl rfl rfl ?_
      refine Plan.len rfl rfl slV rfl ?_
      refine Plan.move (v := .slice _ _ _) rfl rfl rfl ?_
      refine Plan.len rfl rfl slV rfl ?_
      refine Plan.cmp2 rfl rfl rfl rfl rfl (fun h38 => ?_) (fun h38 => ?_)
      · replace h38 := of_decide_eq_true h38
        refine Plan.done ?_
        refine HW.cond_true rfl ?_
        refine HW.skip ?_
        refine HW.block ?_
        refine HW.seq (HW.region [(0, .st), (1, .st), (2, .st), (3, .st), (4, .st), (5, .st), (6, .al), (7, .ef)] rfl rfl ?_)
        refine Plan.move (v := .slice _ _ _) rfl rfl rfl ?_
        refine Plan.move (v := .slice _ _ _) rfl rfl rfl ?_
        refine Plan.len rfl rfl slV rfl ?_
        refine Plan.arithI rfl rfl rfl rfl rfl (by omega) ?_
        refine Plan.indexN (j - 1) rfl rfl slV sizV rfl rfl rfl (by omega) ((by omega)) ?_
        refine Plan.loadAgg rfl rfl aggV sizV rfl (Sees.ownGet 0 rfl bo rfl (j - 1) (vt S (j - 1)) hgt) rfl ?_
        refine Plan.alloc rfl zerV fun b6 => ?_
        refine Plan.storeA 0 rfl rfl hDn sizV rfl rfl rfl rfl rfl rfl ?_
        refine Plan.done ?_
        refine HW.seq (HW.region [(0, .st), (1, .al), (2, .ef)] rfl rfl ?_)
        refine Plan.loadAll 0 rfl rfl aggV sizV rfl rfl rfl ?_
        refine Plan.alloc rfl zerV fun b7 => ?_
        refine Plan.storeA 0 rfl rfl hDn sizV rfl rfl rfl rfl rfl rfl ?_
        refine Plan.done ?_
        refine HW.seq ?_
        refine HW.seq (HW.region [(0, .st)] rfl rfl ?_)
        refine Plan.assign (v := .int _ _) rfl rfl rfl ?_
        refine Plan.done ?_
        refine HW.block ?_
        refine HW.loopL (G := Nat) [8, 9, 46, 47, 48, 49, 50, 51, 52, 53, 54, 55, 56, 57, 58, 59, 60, 61, 62, 63, 64, 65, 66, 67, 68, 69, 70, 71, 72, 73, 74, 75, 76, 77, 78, 79, 80, 81, 82, 83, 84, 85, 86, 87, 88, 89, 90, 91] (fun g => [(8, int g)]) (fun g => [Res.blk b7 #[int (scanN (vt S (j - 1)) l g).1, int (scanN (vt S (j - 1)) l g).2] 52, Res.blk b6 #[int (vt S (j - 1)).1, int (vt S (j - 1)).2] 52, ownV (some bo) c1 (S.take j), Res.blk b3 #[int (vt S 0).1, int (vt S 0).2] 52]) (fun g => g ≤ l.length) (fun g => l.length - g) (0) ⟨rfl, trivial⟩ (Ent.refl _ _) (Nat.zero_le _) (fun g F hok => ?_)
        obtain ⟨k, rfl⟩ : ∃ k, k = g := ⟨g, rfl⟩
        refine HW.seq ?_
        refine HW.seq (HW.region [(0, .st), (1, .st), (2, .st), (3, .st)] rfl rfl ?_)
        refine Plan.move (v := .int _ _) rfl rfl rfl ?_
        refine Plan.move (v := .slice _ _ _) rfl rfl rfl ?_
        refine Plan.len rfl rfl slV rfl ?_
        refine Plan.cmp2 rfl rfl rfl rfl rfl (fun h49 => ?_) (fun h49 => ?_)
        · replace h49 := of_decide_eq_true h49
          have hlt : k < l.length := by omega
          obtain ⟨a1, e1, l1⟩ := hp k hlt
          obtain rfl : a = a1 := by injection e1
          have hsc := scanN_succ (a := vt S (j - 1)) hlt
          have hnb : Bd2 100000 (scanN (vt S (j - 1)) l k).1 (scanN (vt S (j - 1)) l k).2 := by
            rcases (scanN_inv hbest k (by omega)).1 with h | h
            · rw [h]; exact ha
            · exact hbd _ h
          have hkb := hbd _ (List.getElem_mem hlt)
          refine Plan.done ?_
          refine HW.cond_true rfl ?_
          refine HW.skip ?_
          refine HW.seq ?_
          refine HW.block ?_
          refine HW.seq ?_
          refine HW.seq (HW.region_any [] [(0, .st), (1, .st), (2, .st), (3, .st), (4, .st), (5, .st)] mix (by kernel_rfl) (fun _ _ _ _ _ h => h) (zeros rfl) ?_)
          refine Plan.move (v := .slice _ _ _) rfl rfl rfl ?_
          refine Plan.move (v := .int _ _) rfl rfl rfl ?_
          refine Plan.indexN (k) rfl rfl slV sizV rfl rfl rfl rfl (hlt) ?_
          refine Plan.loadAgg rfl rfl aggV sizV rfl (Sees.old l1 (by simp)) rfl ?_
          refine Plan.loadAll 1 rfl rfl aggV sizV rfl rfl rfl ?_
          refine Plan.eqV (l[k]) (vt S (j - 1)) rfl rfl rfl rfl rfl (fun h57 => ?_) (fun h57 => ?_)
          · skip
            have hnew : scanN (vt S (j - 1)) l (k + 1) = scanN (vt S (j - 1)) l k := by rw [hsc]; unfold nextF; rw [if_pos h57]
            refine Plan.done ?_
            refine HW.cond_true rfl ?_
            refine HW.exit ?_
            refine HW.region [(0, .st), (1, .st), (2, .st)] rfl rfl ?_
            refine Plan.move (v := .int _ _) rfl rfl rfl ?_
            refine Plan.arithI rfl rfl rfl rfl rfl (by omega) ?_
            refine Plan.assign (v := .int _ _) rfl rfl rfl ?_
            refine Plan.done ?_
            exact ⟨k + 1, by simp only; omega, hlt, rfl, (fun w' hm => by
                show Mem _ _ [Res.blk b7 #[int (scanN (vt S (j - 1)) l (k + 1)).1, int (scanN (vt S (j - 1)) l (k + 1)).2] 52, Res.blk b6 #[int (vt S (j - 1)).1, int (vt S (j - 1)).2] 52, ownV (some bo) c1 (S.take j), Res.blk b3 #[int (vt S 0).1, int (vt S 0).2] 52] w'
                rw [hnew]
                exact hm), (by repeat (first | exact Agree.havoc _ _ _ | refine Agree.updN ?_ | refine Agree.upd rfl ?_ | refine Agree.updL rfl ?_ | refine Agree.havoc2 rfl ?_)), ⟨rfl, trivial⟩⟩
          · skip
            refine Plan.done ?_
            refine HW.cond_false rfl ?_
            refine HW.skip ?_
            refine HW.seq (HW.region_any [] [(0, .st), (1, .st), (2, .st), (3, .st), (4, .st), (5, .st), (6, .ef), (7, .st)] mix (by kernel_rfl) (fun _ _ _ _ _ h => h) (zeros rfl) ?_)
            refine Plan.loadAll 1 rfl rfl aggV sizV rfl rfl rfl ?_
            refine Plan.loadAll 0 rfl rfl aggV sizV rfl rfl rfl ?_
            refine Plan.move (v := .slice _ _ _) rfl rfl rfl ?_
            refine Plan.move (v := .int _ _) rfl rfl rfl ?_
            refine Plan.indexN (k) rfl rfl slV sizV rfl rfl rfl rfl (hlt) ?_
            refine Plan.loadAgg rfl rfl aggV sizV rfl (Sees.old l1 (by simp)) rfl ?_
            refine Plan.callF [] 0 rfl rfl rfl (.inl rfl) (by simp) (fun w hm => Twice_ct _ _ _ w ha hnb hkb) ?_   -- tinplate/tinplateref03.Twice
            rintro v Ln ⟨rfl, rfl⟩
            refine Plan.assign (v := .int _ _) rfl rfl rfl ?_
            refine Plan.done ?_
            refine HW.seq (HW.region_any [] [(0, .st), (1, .st), (2, .st), (3, .st), (4, .st), (5, .st), (6, .st), (7, .st), (8, .st), (9, .st), (10, .st), (11, .st), (12, .st), (13, .st), (14, .st), (15, .st), (17, .st), (18, .st), (16, .ef), (19, .ef), (20, .st), (21, .st), (22, .st)] mix (by kernel_rfl) (fun _ _ _ _ _ h => h) (zeros rfl) ?_)
            refine Plan.loadAll 0 rfl rfl aggV sizV rfl rfl rfl ?_
            refine Plan.loadAll 1 rfl rfl aggV sizV rfl rfl rfl ?_
            refine Plan.eqV (scanN (vt S (j - 1)) l k) (vt S (j - 1)) rfl rfl rfl rfl rfl (fun h67 => ?_) (fun h67 => ?_)
            · skip
              have hnew : scanN (vt S (j - 1)) l (k + 1) = l[k] := by rw [hsc]; unfold nextF; rw [if_neg h57, if_pos (.inl h67)]
              refine Plan.move (v := .bool _) rfl rfl rfl ?_
              refine Plan.no rfl rfl ?_
              refine Plan.no rfl rfl ?_
              refine Plan.pick (v := .bool _) rfl rfl rfl rfl ?_
              refine Plan.move (v := .bool _) rfl rfl rfl ?_
              refine Plan.no rfl rfl ?_
              refine Plan.no rfl rfl ?_
              refine Plan.no rfl rfl ?_
              refine Plan.no rfl rfl ?_
              refine Plan.no rfl rfl ?_
              refine Plan.no rfl rfl ?_
              refine Plan.no rfl rfl ?_
              refine Plan.no rfl rfl ?_
              refine Plan.no rfl rfl ?_
              refine Plan.no rfl rfl ?_
              refine Plan.noE rfl rfl ?_
              refine Plan.noE rfl rfl ?_
              refine Plan.no rfl rfl ?_
              refine Plan.no rfl rfl ?_
              refine Plan.pick (v := .bool _) rfl rfl rfl rfl ?_
              refine Plan.done ?_
              refine HW.cond_true rfl ?_
              refine HW.region [(0, .st), (1, .st), (2, .st), (3, .st), (4, .ef)] rfl rfl ?_
              refine Plan.move (v := .slice _ _ _) rfl rfl rfl ?_
              refine Plan.move (v := .int _ _) rfl rfl rfl ?_
              refine Plan.indexN (k) rfl rfl slV sizV rfl rfl rfl rfl (hlt) ?_
              refine Plan.loadAgg rfl rfl aggV sizV rfl (Sees.old l1 (by simp)) rfl ?_
              refine Plan.storeA 0 rfl rfl hDn sizV rfl rfl rfl rfl rfl rfl ?_
              refine Plan.done ?_
              refine HW.region [(0, .st), (1, .st), (2, .st)] rfl rfl ?_
              refine Plan.move (v := .int _ _) rfl rfl rfl ?_
              refine Plan.arithI rfl rfl rfl rfl rfl (by omega) ?_
              refine Plan.assign (v := .int _ _) rfl rfl rfl ?_
              refine Plan.done ?_
              exact ⟨k + 1, by simp only; omega, hlt, rfl, (fun w' hm => by
                  show Mem _ _ [Res.blk b7 #[int (scanN (vt S (j - 1)) l (k + 1)).1, int (scanN (vt S (j - 1)) l (k + 1)).2] 52, Res.blk b6 #[int (vt S (j - 1)).1, int (vt S (j - 1)).2] 52, ownV (some bo) c1 (S.take j), Res.blk b3 #[int (vt S 0).1, int (vt S 0).2] 52] w'
                  rw [hnew]
                  exact hm), (by repeat (first | exact Agree.havoc _ _ _ | refine Agree.updN ?_ | refine Agree.upd rfl ?_ | refine Agree.updL rfl ?_ | refine Agree.havoc2 rfl ?_)), ⟨rfl, trivial⟩⟩
            · skip
              refine Plan.move (v := .bool _) rfl rfl rfl ?_
              refine Plan.move (v := .int _ _) rfl rfl rfl ?_
              refine Plan.cmp2 rfl rfl rfl rfl rfl (fun h70 => ?_) (fun h70 => ?_)
              · replace h70 := of_decide_eq_true h70
                have hnew : scanN (vt S (j - 1)) l (k + 1) = l[k] := by rw [hsc]; unfold nextF; rw [if_neg h57, if_pos (.inr (.inl h70))]
                refine Plan.pick (v := .bool _) rfl rfl rfl rfl ?_
                refine Plan.move (v := .bool _) rfl rfl rfl ?_
                refine Plan.no rfl rfl ?_
                refine Plan.no rfl rfl ?_
                refine Plan.no rfl rfl ?_
                refine Plan.no rfl rfl ?_
                refine Plan.no rfl rfl ?_
                refine Plan.no rfl rfl ?_
                refine Plan.no rfl rfl ?_
                refine Plan.no rfl rfl ?_
                refine Plan.no rfl rfl ?_
                refine Plan.no rfl rfl ?_
                refine Plan.noE rfl rfl ?_
                refine Plan.noE rfl rfl ?_
                refine Plan.no rfl rfl ?_
                refine Plan.no rfl rfl ?_
                refine Plan.pick (v := .bool _) rfl rfl rfl rfl ?_
                refine Plan.done ?_
                refine HW.cond_true rfl ?_
                refine HW.region [(0, .st), (1, .st), (2, .st), (3, .st), (4, .ef)] rfl rfl ?_
                refine Plan.move (v := .slice _ _ _) rfl rfl rfl ?_
                refine Plan.move (v := .int _ _) rfl rfl rfl ?_
                refine Plan.indexN (k) rfl rfl slV sizV rfl rfl rfl rfl (hlt) ?_
                refine Plan.loadAgg rfl rfl aggV sizV rfl (Sees.old l1 (by simp)) rfl ?_
                refine Plan.storeA 0 rfl rfl hDn sizV rfl rfl rfl rfl rfl rfl ?_
                refine Plan.done ?_
                refine HW.region [(0, .st), (1, .st), (2, .st)] rfl rfl ?_
                refine Plan.move (v := .int _ _) rfl rfl rfl ?_
                refine Plan.arithI rfl rfl rfl rfl rfl (by omega) ?_
                refine Plan.assign (v := .int _ _) rfl rfl rfl ?_
                refine Plan.done ?_
                exact ⟨k + 1, by simp only; omega, hlt, rfl, (fun w' hm => by
                    show Mem _ _ [Res.blk b7 #[int (scanN (vt S (j - 1)) l (k + 1)).1, int (scanN (vt S (j - 1)) l (k + 1)).2] 52, Res.blk b6 #[int (vt S (j - 1)).1, int (vt S (j - 1)).2] 52, ownV (some bo) c1 (S.take j), Res.blk b3 #[int (vt S 0).1, int (vt S 0).2] 52] w'
                    rw [hnew]
                    exact hm), (by repeat (first | exact Agree.havoc _ _ _ | refine Agree.updN ?_ | refine Agree.upd rfl ?_ | refine Agree.updL rfl ?_ | refine Agree.havoc2 rfl ?_)), ⟨rfl, trivial⟩⟩
              · replace h70 := of_decide_eq_false h70
                refine Plan.pick (v := .bool _) rfl rfl rfl rfl ?_
                refine Plan.move (v := .bool _) rfl rfl rfl ?_
                refine Plan.move (v := .int _ _) rfl rfl rfl ?_
                refine Plan.cmp2 rfl rfl rfl rfl rfl (fun h74 => ?_) (fun h74 => ?_)
                · replace h74 := of_decide_eq_true h74
                  refine Plan.move (v := .bool _) rfl rfl rfl ?_
                  refine Plan.loadAll 1 rfl rfl aggV sizV rfl rfl rfl ?_
                  refine Plan.move (v := .slice _ _ _) rfl rfl rfl ?_
                  refine Plan.move (v := .int _ _) rfl rfl rfl ?_
                  refine Plan.indexN (k) rfl rfl slV sizV rfl rfl rfl rfl (hlt) ?_
                  refine Plan.loadAgg rfl rfl aggV sizV rfl (Sees.old l1 (by simp)) rfl ?_
                  refine Plan.loadAll 1 rfl rfl aggV sizV rfl rfl rfl ?_
                  refine Plan.loadAll 0 rfl rfl aggV sizV rfl rfl rfl ?_
                  refine Plan.callF [] 0 rfl rfl rfl (.inl rfl) (by simp) (fun w hm => far_ct _ _ w ha hkb) ?_   -- tinplate/tinplateref03.far
                  rintro v Ln ⟨rfl, rfl⟩
                  refine Plan.callF [] 0 rfl rfl rfl (.inl rfl) (by simp) (fun w hm => far_ct _ _ w ha hnb) ?_   -- tinplate/tinplateref03.far
                  rintro v Ln ⟨rfl, rfl⟩
                  refine Plan.cmp2 rfl rfl rfl rfl rfl (fun h85 => ?_) (fun h85 => ?_)
                  · replace h85 := of_decide_eq_true h85
                    have hnew : scanN (vt S (j - 1)) l (k + 1) = l[k] := by rw [hsc]; unfold nextF; rw [if_neg h57, if_pos (.inr (.inr ⟨h74, h85⟩))]
                    refine Plan.pick (v := .bool _) rfl rfl rfl rfl ?_
                    refine Plan.pick (v := .bool _) rfl rfl rfl rfl ?_
                    refine Plan.done ?_
                    refine HW.cond_true rfl ?_
                    refine HW.region [(0, .st), (1, .st), (2, .st), (3, .st), (4, .ef)] rfl rfl ?_
                    refine Plan.move (v := .slice _ _ _) rfl rfl rfl ?_
                    refine Plan.move (v := .int _ _) rfl rfl rfl ?_
                    refine Plan.indexN (k) rfl rfl slV sizV rfl rfl rfl rfl (hlt) ?_
                    refine Plan.loadAgg rfl rfl aggV sizV rfl (Sees.old l1 (by simp)) rfl ?_
                    refine Plan.storeA 0 rfl rfl hDn sizV rfl rfl rfl rfl rfl rfl ?_
                    refine Plan.done ?_
                    refine HW.region [(0, .st), (1, .st), (2, .st)] rfl rfl ?_
                    refine Plan.move (v := .int _ _) rfl rfl rfl ?_
                    refine Plan.arithI rfl rfl rfl rfl rfl (by omega) ?_
                    refine Plan.assign (v := .int _ _) rfl rfl rfl ?_
                    refine Plan.done ?_
                    exact ⟨k + 1, by simp only; omega, hlt, rfl, (fun w' hm => by
                        show Mem _ _ [Res.blk b7 #[int (scanN (vt S (j - 1)) l (k + 1)).1, int (scanN (vt S (j - 1)) l (k + 1)).2] 52, Res.blk b6 #[int (vt S (j - 1)).1, int (vt S (j - 1)).2] 52, ownV (some bo) c1 (S.take j), Res.blk b3 #[int (vt S 0).1, int (vt S 0).2] 52] w'
                        rw [hnew]
                        exact hm), (by repeat (first | exact Agree.havoc _ _ _ | refine Agree.updN ?_ | refine Agree.upd rfl ?_ | refine Agree.updL rfl ?_ | refine Agree.havoc2 rfl ?_)), ⟨rfl, trivial⟩⟩
                  · replace h85 := of_decide_eq_false h85
                    have hnew : scanN (vt S (j - 1)) l (k + 1) = scanN (vt S (j - 1)) l k := by rw [hsc]; unfold nextF; rw [if_neg h57, if_neg (by rintro (h | h | h); exact h67 h; exact h70 h; exact h85 h.2)]
                    refine Plan.pick (v := .bool _) rfl rfl rfl rfl ?_
                    refine Plan.pick (v := .bool _) rfl rfl rfl rfl ?_
                    refine Plan.done ?_
                    refine HW.cond_false rfl ?_
                    refine HW.skip ?_
                    refine HW.region [(0, .st), (1, .st), (2, .st)] rfl rfl ?_
                    refine Plan.move (v := .int _ _) rfl rfl rfl ?_
                    refine Plan.arithI rfl rfl rfl rfl rfl (by omega) ?_
                    refine Plan.assign (v := .int _ _) rfl rfl rfl ?_
                    refine Plan.done ?_
                    exact ⟨k + 1, by simp only; omega, hlt, rfl, (fun w' hm => by
                        show Mem _ _ [Res.blk b7 #[int (scanN (vt S (j - 1)) l (k + 1)).1, int (scanN (vt S (j - 1)) l (k + 1)).2] 52, Res.blk b6 #[int (vt S (j - 1)).1, int (vt S (j - 1)).2] 52, ownV (some bo) c1 (S.take j), Res.blk b3 #[int (vt S 0).1, int (vt S 0).2] 52] w'
                        rw [hnew]
                        exact hm), (by repeat (first | exact Agree.havoc _ _ _ | refine Agree.updN ?_ | refine Agree.upd rfl ?_ | refine Agree.updL rfl ?_ | refine Agree.havoc2 rfl ?_)), ⟨rfl, trivial⟩⟩
                · replace h74 := of_decide_eq_false h74
                  have hnew : scanN (vt S (j - 1)) l (k + 1) = scanN (vt S (j - 1)) l k := by rw [hsc]; unfold nextF; rw [if_neg h57, if_neg (by rintro (h | h | h); exact h67 h; exact h70 h; exact h74 h.1)]
                  refine Plan.move (v := .bool _) rfl rfl rfl ?_
                  refine Plan.no rfl rfl ?_
                  refine Plan.no rfl rfl ?_
                  refine Plan.no rfl rfl ?_
                  refine Plan.no rfl rfl ?_
                  refine Plan.no rfl rfl ?_
                  refine Plan.no rfl rfl ?_
                  refine Plan.no rfl rfl ?_
                  refine Plan.noE rfl rfl ?_
                  refine Plan.noE rfl rfl ?_
                  refine Plan.no rfl rfl ?_
                  refine Plan.pick (v := .bool _) rfl rfl rfl rfl ?_
                  refine Plan.pick (v := .bool _) rfl rfl rfl rfl ?_
                  refine Plan.done ?_
                  refine HW.cond_false rfl ?_
                  refine HW.skip ?_
                  refine HW.region [(0, .st), (1, .st), (2, .st)] rfl rfl ?_
                  refine Plan.move (v := .int _ _) rfl rfl rfl ?_
                  refine Plan.arithI rfl rfl rfl rfl rfl (by omega) ?_
                  refine Plan.assign (v := .int _ _) rfl rfl rfl ?_
                  refine Plan.done ?_
                  exact ⟨k + 1, by simp only; omega, hlt, rfl, (fun w' hm => by
                      show Mem _ _ [Res.blk b7 #[int (scanN (vt S (j - 1)) l (k + 1)).1, int (scanN (vt S (j - 1)) l (k + 1)).2] 52, Res.blk b6 #[int (vt S (j - 1)).1, int (vt S (j - 1)).2] 52, ownV (some bo) c1 (S.take j), Res.blk b3 #[int (vt S 0).1, int (vt S 0).2] 52] w'
                      rw [hnew]
                      exact hm), (by repeat (first | exact Agree.havoc _ _ _ | refine Agree.updN ?_ | refine Agree.upd rfl ?_ | refine Agree.updL rfl ?_ | refine Agree.havoc2 rfl ?_)), ⟨rfl, trivial⟩⟩
        · replace h49 := of_decide_eq_false h49
          have hk : k = l.length := by omega
          rw [hk, scanN_best hbest]
          have hnd : j < S.length → vt S j ≠ vt S 0 := fun h e => by
            have h1 := hH.sr.low j (by omega) h
            rw [← vt_lt h, ← vt_lt (by omega : 0 < S.length), e] at h1
            omega
          refine Plan.done ?_
          refine HW.cond_false rfl ?_
          refine HW.exit ?_
          refine HW.seq ?_
          refine HW.seq (HW.region [(0, .st), (1, .st), (2, .st), (3, .st), (4, .st), (5, .st), (6, .st), (7, .st)] rfl rfl ?_)
          refine Plan.loadAll 0 rfl rfl aggV sizV rfl rfl rfl ?_
          refine Plan.loadAll 3 rfl rfl aggV sizV rfl rfl rfl ?_
          refine Plan.eqV (vt S j) (vt S 0) rfl rfl rfl rfl rfl (fun h94 => ?_) (fun h94 => ?_)
          · skip
            have hjS : j = S.length := by
              rcases Nat.lt_or_eq_of_le hjn with h | h
              · exact absurd h94 (hnd h)
              · exact h
            rw [hjS, List.take_length]
            refine Plan.move (v := .bool _) rfl rfl rfl ?_
            refine Plan.no rfl rfl ?_
            refine Plan.no rfl rfl ?_
            refine Plan.no rfl rfl ?_
            refine Plan.pick (v := .bool _) rfl rfl rfl rfl ?_
            refine Plan.done ?_
            refine HW.cond_true rfl ?_
            refine HW.exit ?_
            refine HW.seq (HW.region [(0, .st), (1, .st)] rfl rfl ?_)
            refine Plan.move (v := .slice _ _ _) rfl rfl rfl ?_
            refine Plan.assign (v := .slice _ _ _) rfl rfl rfl ?_
            refine Plan.done ?_
            exact HW.ret ⟨rfl, _, [ownV (some bo) c1 S], .tmp rfl .nil, .cons _ (.cons _ (.cons_cons _ (List.nil_sublist _))), bo, c1, rfl, rfl⟩
          · skip
            have hjS : j < S.length := by
              rcases Nat.lt_or_eq_of_le hjn with h | h
              · exact h
              · exact absurd (by rw [h, vt_n]) h94
            refine Plan.move (v := .bool _) rfl rfl rfl ?_
            refine Plan.loadAll 0 rfl rfl aggV sizV rfl rfl rfl ?_
            refine Plan.loadAll 1 rfl rfl aggV sizV rfl rfl rfl ?_
            refine Plan.eqV (vt S j) (vt S (j - 1)) rfl rfl rfl rfl rfl (fun h98 => ?_) (fun h98 => ?_)
            · skip
              exact absurd h98 hbest.ne
            · skip
              refine Plan.pick (v := .bool _) rfl rfl rfl rfl ?_
              refine Plan.done ?_
              refine HW.cond_false rfl ?_
              refine HW.skip ?_
              refine HW.region [(0, .st), (1, .st), (2, .ef), (3, .ef), (4, .st)] rfl rfl ?_
              refine Plan.move (v := .slice _ _ _) rfl rfl rfl ?_
              refine Plan.loadAll 0 rfl rfl aggV sizV rfl rfl rfl ?_
              refine Plan.buildOwn (xs := [vt S j]) (enc := enc) (sz := 2) rfl rfl rfl (bs1 _ _) rfl rfl (by simp) rfl fun b102 => ?_
              refine Plan.append (enc := enc) (sz := 2) (ys := [vt S j]) (3) rfl rfl hDn slV infV rfl (by decide) enc2 enc1 rfl rfl (by simp; omega) rfl rfl (Sees.ownAll 0 rfl b102 rfl) (by simp; omega) (by simp; omega) fun o103 c103 => ?_
              refine Plan.assign (v := .slice _ _ _) rfl rfl rfl ?_
              refine Plan.done ?_
              exact ⟨⟨j + 1, o103, c103⟩, by simp only; omega, ⟨by simp only; omega, hjS⟩, rfl, (fun w' hm => by
                  show Mem _ _ [ownV o103 c103 (S.take (j + 1)), Res.blk b3 #[int (vt S 0).1, int (vt S 0).2] 52] w'
                  rw [take_vt hjS]
                  exact hm.sub (.cons _ (.cons _ (.cons _ (.refl _))))), (by repeat (first | exact Agree.havoc _ _ _ | refine Agree.updN ?_ | refine Agree.upd rfl ?_ | refine Agree.updL rfl ?_ | refine Agree.havoc2 rfl ?_)), ⟨slv_eq (by simp; omega), trivial⟩⟩
      · replace h38 := of_decide_eq_false h38
        omega

end Go.Proofs.Ytjmklbkcpjmcaaa.V
