/-
  The specification's Extreme, rows and Points (package tinplateref03).
-/
import Derived.Test.YtoghphikfkdkmaaV23
import Derived.Test.YtoghphikfkdkmaaP4
namespace Go.Proofs.Ytoghphikfkdkmaa.V
open Go Go.RowKit Go.Proofs.Ytoghphikfkdkmaa.H
set_option linter.unusedVariables false
set_option linter.unusedSimpArgs false

def bA (ps : List Pt) (d : Pt) : Nat → Int
  | 0 => -1
  | k + 1 => (extAt ps d (k + 1) : Nat)
def bB (ps : List Pt) (d : Pt) : Nat → Int
  | 0 => 0
  | k + 1 => dotP d (nth ps (extAt ps d (k + 1)))

theorem ex_new {ps : List Pt} {d : Pt} {k : Nat} (h : bA ps d k < 0 ∨ dotP d (nth ps k) > bB ps d k) : bB ps d (k + 1) = dotP d (nth ps k) ∧ bA ps d (k + 1) = k := by
  cases k with
  | zero =>
    have e : extAt ps d (0 + 1) = 0 := by unfold extAt; split <;> rfl
    show dotP d (nth ps (extAt ps d (0 + 1))) = _ ∧ ((extAt ps d (0 + 1) : Nat) : Int) = _
    rw [e]; exact ⟨rfl, rfl⟩
  | succ j =>
    have h2 : dotP d (nth ps (j + 1)) > dotP d (nth ps (extAt ps d (j + 1))) := by
      rcases h with h | h
      · have h' : ((extAt ps d (j + 1) : Nat) : Int) < 0 := h
        omega
      · exact h
    have e : extAt ps d (j + 1 + 1) = j + 1 := by
      conv => lhs; unfold extAt
      rw [if_pos h2]
    show dotP d (nth ps (extAt ps d (j + 1 + 1))) = _ ∧ ((extAt ps d (j + 1 + 1) : Nat) : Int) = _
    rw [e]; exact ⟨rfl, rfl⟩
theorem ex_old {ps : List Pt} {d : Pt} {k : Nat} (h : ¬ bA ps d k < 0) (h2 : ¬ dotP d (nth ps k) > bB ps d k) : bB ps d (k + 1) = bB ps d k ∧ bA ps d (k + 1) = bA ps d k := by
  cases k with
  | zero => exact absurd (show (-1 : Int) < 0 by decide) h
  | succ j =>
    have h3 : ¬ dotP d (nth ps (j + 1)) > dotP d (nth ps (extAt ps d (j + 1))) := h2
    have e : extAt ps d (j + 1 + 1) = extAt ps d (j + 1) := by
      conv => lhs; unfold extAt
      rw [if_neg h3]
    show dotP d (nth ps (extAt ps d (j + 1 + 1))) = dotP d (nth ps (extAt ps d (j + 1))) ∧ ((extAt ps d (j + 1 + 1) : Nat) : Int) = ((extAt ps d (j + 1) : Nat) : Int)
    rw [e]; exact ⟨rfl, rfl⟩

set_option maxRecDepth 10000 in
set_option maxHeartbeats 1000000 in
theorem rExtreme_ct (A : Option Addr) (ps : List Pt) (d : Pt) (n c : Nat) (w : World) (hp : Rd enc 2 w A ps) (hn : n = ps.length) :
    Ct P 19 #[.slice A n c, vc d] w [] (fun r L => r = .tuple #[int (ExtF ps d).1, int (ExtF ps d).2.1, int (ExtF ps d).2.2] ∧ L = []) := by
  subst hn
  refine Ct.of_body (rs := [.tmp 4, .tmp 5, .tmp 6]) (N := 58) (L := []) Try.func19 rfl rfl rfl (by kernel_rfl) rfl (Mem.refl w) ?_
  refine HW.seq (HW.region [(0, .ef), (1, .st), (2, .st), (3, .st)] rfl rfl ?_)
  refine Plan.boxA rfl rfl rfl fun b3 => ?_
  refine Plan.assign (v := .int _ _) rfl rfl rfl ?_
  refine Plan.assign (v := .int _ _) rfl rfl rfl ?_
  refine Plan.assign (v := .int _ _) rfl rfl rfl ?_
  refine Plan.done ?_
  refine HW.seq ?_
  refine HW.seq (HW.region [(0, .st), (1, .ef), (2, .st), (3, .st), (4, .st), (5, .ef), (6, .st), (7, .st), (8, .st), (9, .st), (10, .st), (11, .st), (12, .st)] rfl rfl ?_)
  refine Plan.move (v := .slice _ _ _) rfl rfl rfl ?_
  refine Plan.callF [] 0 rfl rfl rfl (.inl rfl) (by simp) (fun w hm => rvalid_ct A ps _ c w (hp.mem hm) rfl) ?_   -- tinplate/tinplateref03.Valid
  rintro v Ln ⟨rfl, rfl⟩
  refine Plan.splitB (fun h12 => ?_) (fun h12 => ?_)
  · skip
    refine Plan.not rfl rfl rfl ?_
    refine Plan.move (v := .bool _) rfl rfl rfl ?_
    refine Plan.loadAll 0 rfl rfl aggV sizV rfl rfl rfl ?_
    refine Plan.callF [] 0 rfl rfl rfl (.inl rfl) (by simp) (fun w hm => Good_ct d w) ?_   -- tinplate/tinplateref03.Good
    rintro v Ln ⟨rfl, rfl⟩
    refine Plan.splitB (fun h16 => ?_) (fun h16 => ?_)
    · skip
      refine Plan.not rfl rfl rfl ?_
      refine Plan.pick (v := .bool _) rfl rfl rfl rfl ?_
      refine Plan.move (v := .bool _) rfl rfl rfl ?_
      refine Plan.loadAll 0 rfl rfl aggV sizV rfl rfl rfl ?_
      refine Plan.build rfl rfl rfl (bld0) ?_
      refine Plan.eqV d (0, 0) rfl rfl rfl rfl rfl (fun h22 => ?_) (fun h22 => ?_)
      · skip
        refine Plan.pick (v := .bool _) rfl rfl rfl rfl ?_
        refine Plan.done ?_
        refine HW.cond_true rfl ?_
        refine HW.seq (HW.region [(0, .st), (1, .st), (2, .st)] rfl rfl ?_)
        refine Plan.assign (v := .int _ _) rfl rfl rfl ?_
        refine Plan.assign (v := .int _ _) rfl rfl rfl ?_
        refine Plan.assign (v := .int _ _) rfl rfl rfl ?_
        refine Plan.done ?_
        exact HW.ret ⟨rfl, _, [], .tmp rfl (.tmp rfl (.tmp rfl .nil)), List.nil_sublist _, (by unfold ExtF; simp [h22]; first | rfl | skip), rfl⟩
      · skip
        obtain ⟨v1, v2, v3, v4⟩ := validF_spec h12
        have hdb := okB_bd h16
        refine Plan.pick (v := .bool _) rfl rfl rfl rfl ?_
        refine Plan.done ?_
        refine HW.cond_false rfl ?_
        refine HW.skip ?_
        refine HW.seq (HW.region [(0, .st), (1, .st)] rfl rfl ?_)
        refine Plan.assign (v := .int _ _) rfl rfl rfl ?_
        refine Plan.assign (v := .int _ _) rfl rfl rfl ?_
        refine Plan.done ?_
        refine HW.seq ?_
        refine HW.seq (HW.region [(0, .st)] rfl rfl ?_)
        refine Plan.assign (v := .int _ _) rfl rfl rfl ?_
        refine Plan.done ?_
        refine HW.block ?_
        refine HW.loopC (G := Nat) [7, 8, 9, 10, 24, 25, 26, 27, 28, 29, 30, 31, 32, 33, 34, 35, 36, 37, 38, 39, 40, 41, 42, 43, 44, 45, 46, 47, 48, 49, 50, 51, 52, 53, 54, 55] (fun g => [(9, int g), (7, int (bB ps d g)), (8, int (bA ps d g))]) (fun g => g ≤ ps.length) (fun g => ps.length - g) (0) ⟨rfl, rfl, rfl, trivial⟩ (Nat.zero_le _) (fun g F hok => ?_)
        obtain ⟨k, rfl⟩ : ∃ k, k = g := ⟨g, rfl⟩
        refine HW.seq ?_
        refine HW.seq (HW.region [(0, .st), (1, .st), (2, .st), (3, .st)] rfl rfl ?_)
        refine Plan.move (v := .int _ _) rfl rfl rfl ?_
        refine Plan.move (v := .slice _ _ _) rfl rfl rfl ?_
        refine Plan.len rfl rfl slV rfl ?_
        refine Plan.cmp2 rfl rfl rfl rfl rfl (fun h27 => ?_) (fun h27 => ?_)
        · replace h27 := of_decide_eq_true h27
          have hlt : k < ps.length := by omega
          obtain ⟨a1, rfl, l1⟩ := hp k hlt
          have pb := v3 _ (List.getElem_mem hlt)
          have m1 := mul_bd hdb.1 pb.1
          have m2 := mul_bd hdb.2 pb.2
          have hx : d.1 * ps[k].1 + d.2 * ps[k].2 = dotP d (nth ps k) := by rw [nth_get hlt]; rfl
          refine Plan.done ?_
          refine HW.cond_true rfl ?_
          refine HW.skip ?_
          refine HW.seq ?_
          refine HW.block ?_
          refine HW.seq (HW.region_any [] [(0, .st), (1, .st), (2, .st), (3, .st), (4, .st), (5, .st), (6, .st), (7, .st), (8, .st), (9, .st), (10, .st), (11, .st), (12, .st), (13, .st), (14, .st), (15, .st), (16, .st), (17, .st)] mix (by kernel_rfl) (fun _ _ _ _ _ h => h) (zeros rfl) ?_)
          refine Plan.fieldAddr rfl rfl fldV0 rfl ?_
          refine Plan.load (v := .int _ _) rfl rfl aggI rfl (Sees.one 0 rfl rfl) ?_
          refine Plan.move (v := .slice _ _ _) rfl rfl rfl ?_
          refine Plan.move (v := .int _ _) rfl rfl rfl ?_
          refine Plan.indexN (k) rfl rfl slV sizV rfl rfl rfl rfl (hlt) ?_
          refine Plan.fieldAddr rfl rfl fldV0 rfl ?_
          refine Plan.load (v := .int _ _) rfl rfl aggI rfl (Sees.fx (Sees.old l1 (by simp))) ?_
          refine Plan.arithI rfl rfl rfl rfl rfl (by omega) ?_
          refine Plan.fieldAddr rfl rfl fldV1 rfl ?_
          refine Plan.load (v := .int _ _) rfl rfl aggI rfl (Sees.one 0 rfl rfl) ?_
          refine Plan.move (v := .slice _ _ _) rfl rfl rfl ?_
          refine Plan.move (v := .int _ _) rfl rfl rfl ?_
          refine Plan.indexN (k) rfl rfl slV sizV rfl rfl rfl rfl (hlt) ?_
          refine Plan.fieldAddr rfl rfl fldV1 rfl ?_
          refine Plan.load (v := .int _ _) rfl rfl aggI rfl (Sees.fy (Sees.old l1 (by simp))) ?_
          refine Plan.arithI rfl rfl rfl rfl rfl (by omega) ?_
          refine Plan.arithI rfl rfl rfl rfl rfl (by omega) ?_
          refine Plan.assign (v := .int _ _) rfl rfl rfl ?_
          refine Plan.done ?_
          rw [hx]
          refine HW.seq (HW.region [(0, .st), (1, .st), (2, .st), (3, .st), (4, .st), (5, .st), (6, .st)] rfl rfl ?_)
          refine Plan.move (v := .int _ _) rfl rfl rfl ?_
          refine Plan.cmp2 rfl rfl rfl rfl rfl (fun h48 => ?_) (fun h48 => ?_)
          · replace h48 := of_decide_eq_true h48
            obtain ⟨z1, z2⟩ := ex_new (.inl h48)
            refine Plan.move (v := .bool _) rfl rfl rfl ?_
            refine Plan.no rfl rfl ?_
            refine Plan.no rfl rfl ?_
            refine Plan.no rfl rfl ?_
            refine Plan.pick (v := .bool _) rfl rfl rfl rfl ?_
            refine Plan.done ?_
            refine HW.cond_true rfl ?_
            refine HW.region [(0, .st), (1, .st), (2, .st), (3, .st)] rfl rfl ?_
            refine Plan.move (v := .int _ _) rfl rfl rfl ?_
            refine Plan.move (v := .int _ _) rfl rfl rfl ?_
            refine Plan.assign (v := .int _ _) rfl rfl rfl ?_
            refine Plan.assign (v := .int _ _) rfl rfl rfl ?_
            refine Plan.done ?_
            refine HW.region [(0, .st), (1, .st), (2, .st)] rfl rfl ?_
            refine Plan.move (v := .int _ _) rfl rfl rfl ?_
            refine Plan.arithI rfl rfl rfl rfl rfl (by omega) ?_
            refine Plan.assign (v := .int _ _) rfl rfl rfl ?_
            refine Plan.done ?_
            exact ⟨k + 1, by simp only; omega, hlt, rfl, Ent.sub (.refl _), (by repeat (first | exact Agree.havoc _ _ _ | refine Agree.updN ?_ | refine Agree.upd rfl ?_ | refine Agree.updL rfl ?_ | refine Agree.havoc2 rfl ?_)), ⟨rfl, congrArg int z1.symm, congrArg int z2.symm, trivial⟩⟩
          · replace h48 := of_decide_eq_false h48
            refine Plan.move (v := .bool _) rfl rfl rfl ?_
            refine Plan.move (v := .int _ _) rfl rfl rfl ?_
            refine Plan.move (v := .int _ _) rfl rfl rfl ?_
            refine Plan.cmp2 rfl rfl rfl rfl rfl (fun h52 => ?_) (fun h52 => ?_)
            · replace h52 := of_decide_eq_true h52
              obtain ⟨z1, z2⟩ := ex_new (.inr h52)
              refine Plan.pick (v := .bool _) rfl rfl rfl rfl ?_
              refine Plan.done ?_
              refine HW.cond_true rfl ?_
              refine HW.region [(0, .st), (1, .st), (2, .st), (3, .st)] rfl rfl ?_
              refine Plan.move (v := .int _ _) rfl rfl rfl ?_
              refine Plan.move (v := .int _ _) rfl rfl rfl ?_
              refine Plan.assign (v := .int _ _) rfl rfl rfl ?_
              refine Plan.assign (v := .int _ _) rfl rfl rfl ?_
              refine Plan.done ?_
              refine HW.region [(0, .st), (1, .st), (2, .st)] rfl rfl ?_
              refine Plan.move (v := .int _ _) rfl rfl rfl ?_
              refine Plan.arithI rfl rfl rfl rfl rfl (by omega) ?_
              refine Plan.assign (v := .int _ _) rfl rfl rfl ?_
              refine Plan.done ?_
              exact ⟨k + 1, by simp only; omega, hlt, rfl, Ent.sub (.refl _), (by repeat (first | exact Agree.havoc _ _ _ | refine Agree.updN ?_ | refine Agree.upd rfl ?_ | refine Agree.updL rfl ?_ | refine Agree.havoc2 rfl ?_)), ⟨rfl, congrArg int z1.symm, congrArg int z2.symm, trivial⟩⟩
            · replace h52 := of_decide_eq_false h52
              obtain ⟨z1, z2⟩ := ex_old h48 h52
              refine Plan.pick (v := .bool _) rfl rfl rfl rfl ?_
              refine Plan.done ?_
              refine HW.cond_false rfl ?_
              refine HW.skip ?_
              refine HW.region [(0, .st), (1, .st), (2, .st)] rfl rfl ?_
              refine Plan.move (v := .int _ _) rfl rfl rfl ?_
              refine Plan.arithI rfl rfl rfl rfl rfl (by omega) ?_
              refine Plan.assign (v := .int _ _) rfl rfl rfl ?_
              refine Plan.done ?_
              exact ⟨k + 1, by simp only; omega, hlt, rfl, Ent.sub (.refl _), (by repeat (first | exact Agree.havoc _ _ _ | refine Agree.updN ?_ | refine Agree.upd rfl ?_ | refine Agree.updL rfl ?_ | refine Agree.havoc2 rfl ?_)), ⟨rfl, congrArg int z1.symm, congrArg int z2.symm, trivial⟩⟩
        · replace h27 := of_decide_eq_false h27
          refine Plan.done ?_
          refine HW.cond_false rfl ?_
          refine HW.exit ?_
          refine HW.seq (HW.region [(0, .st), (1, .st), (2, .st), (3, .st), (4, .st)] rfl rfl ?_)
          refine Plan.move (v := .int _ _) rfl rfl rfl ?_
          refine Plan.move (v := .int _ _) rfl rfl rfl ?_
          refine Plan.assign (v := .int _ _) rfl rfl rfl ?_
          refine Plan.assign (v := .int _ _) rfl rfl rfl ?_
          refine Plan.assign (v := .int _ _) rfl rfl rfl ?_
          refine Plan.done ?_
          have hkn : k = ps.length := by omega
          obtain ⟨n', hn'⟩ : ∃ n', ps.length = n' + 1 := ⟨ps.length - 1, by omega⟩
          have f1 : bB ps d k = (ExtF ps d).1 := by unfold ExtF; rw [if_pos (by simp [h12, h16, h22]), hkn]; unfold extF; rw [hn']; rfl
          have f2 : bA ps d k = (ExtF ps d).2.1 := by unfold ExtF; rw [if_pos (by simp [h12, h16, h22]), hkn]; unfold extF; rw [hn']; rfl
          have f3 : (ExtF ps d).2.2 = 0 := by unfold ExtF; rw [if_pos (by simp [h12, h16, h22])]
          exact HW.ret ⟨rfl, _, [], .tmp rfl (.tmp rfl (.tmp rfl .nil)), List.nil_sublist _, (by rw [← f1, ← f2, f3]; rfl), rfl⟩
    · skip
      refine Plan.not rfl rfl rfl ?_
      refine Plan.pick (v := .bool _) rfl rfl rfl rfl ?_
      refine Plan.move (v := .bool _) rfl rfl rfl ?_
      refine Plan.no rfl rfl ?_
      refine Plan.no rfl rfl ?_
      refine Plan.no rfl rfl ?_
      refine Plan.pick (v := .bool _) rfl rfl rfl rfl ?_
      refine Plan.done ?_
      refine HW.cond_true rfl ?_
      refine HW.seq (HW.region [(0, .st), (1, .st), (2, .st)] rfl rfl ?_)
      refine Plan.assign (v := .int _ _) rfl rfl rfl ?_
      refine Plan.assign (v := .int _ _) rfl rfl rfl ?_
      refine Plan.assign (v := .int _ _) rfl rfl rfl ?_
      refine Plan.done ?_
      exact HW.ret ⟨rfl, _, [], .tmp rfl (.tmp rfl (.tmp rfl .nil)), List.nil_sublist _, (by unfold ExtF; simp [h16]; first | rfl | skip), rfl⟩
  · skip
    refine Plan.not rfl rfl rfl ?_
    refine Plan.move (v := .bool _) rfl rfl rfl ?_
    refine Plan.no rfl rfl ?_
    refine Plan.noE rfl rfl ?_
    refine Plan.no rfl rfl ?_
    refine Plan.pick (v := .bool _) rfl rfl rfl rfl ?_
    refine Plan.move (v := .bool _) rfl rfl rfl ?_
    refine Plan.no rfl rfl ?_
    refine Plan.no rfl rfl ?_
    refine Plan.no rfl rfl ?_
    refine Plan.pick (v := .bool _) rfl rfl rfl rfl ?_
    refine Plan.done ?_
    refine HW.cond_true rfl ?_
    refine HW.seq (HW.region [(0, .st), (1, .st), (2, .st)] rfl rfl ?_)
    refine Plan.assign (v := .int _ _) rfl rfl rfl ?_
    refine Plan.assign (v := .int _ _) rfl rfl rfl ?_
    refine Plan.assign (v := .int _ _) rfl rfl rfl ?_
    refine Plan.done ?_
    exact HW.ret ⟨rfl, _, [], .tmp rfl (.tmp rfl (.tmp rfl .nil)), List.nil_sublist _, (by unfold ExtF; simp [h12]; first | rfl | skip), rfl⟩

/-! rows -/
theorem cntRow_lohi {Q : Int → Prop} [DecidablePred Q] {lo hi : Int} (h : ∀ x, (lo ≤ x ∧ x ≤ hi) ↔ (-1000 ≤ x ∧ x ≤ 1000 ∧ Q x)) : cntRow Q = maxI 0 (hi - lo + 1) := by
  have e : cntRow Q = cntRow (fun x => -1000 ≤ x ∧ x ≤ 1000 ∧ Q x) := sumN_congr _ fun k hk => by
    by_cases hq : Q ((k : Nat) - 1000)
    · rw [if_pos hq, if_pos ⟨by omega, by omega, hq⟩]
    · rw [if_neg hq, if_neg fun h => hq h.2.2]
  rw [e]
  unfold maxI
  split
  · next h1 =>
    rw [cntRow_iv (R := hi) (L := -lo) (fun x => by rw [← h x]; omega) (fun x hx => ⟨hx.1, hx.2.1⟩) (by omega)]; omega
  · next h1 => exact cntRow_none fun x hx => by have := (h x).2 hx; omega

theorem cntRow_bd (Q : Int → Prop) [DecidablePred Q] : -2001 ≤ cntRow Q ∧ cntRow Q ≤ 2001 := by
  have := sumN_bd (f := fun ix => if Q ((ix : Nat) - 1000) then (1 : Int) else 0) (M := 1) 2001 (fun j hj => by split <;> omega)
  exact ⟨by have := this.1; unfold cntRow; omega, by have := this.2; unfold cntRow; omega⟩

structure IRG where
  k : Nat
  lo : Int
  hi : Int

set_option maxRecDepth 10000 in
set_option maxHeartbeats 2000000 in
theorem inRow_ct (A : Option Addr) (ps : List Pt) (y s : Int) (n c : Nat) (w : World) (hp : Rd enc 2 w A ps) (hn : n = ps.length) (hlen : ps.length ≤ 1000000) (hbd : ∀ q ∈ ps, Bd2 1000 q.1 q.2) (hy : -1000 ≤ y ∧ y ≤ 1000) (hs : s = 0 ∨ s = 1) :
    Ct P 45 #[.slice A n c, int y, int s] w [] (fun r L => (∃ lo hi, r = .tuple #[int lo, int hi] ∧ (-100000000 ≤ lo ∧ lo ≤ 100000000) ∧ (-100000000 ≤ hi ∧ hi ≤ 100000000) ∧ ∀ x, (lo ≤ x ∧ x ≤ hi) ↔ (-1000 ≤ x ∧ x ≤ 1000 ∧ ∀ j, j < ps.length → s ≤ side ps (x, y) j)) ∧ L = []) := by
  subst hn
  refine Ct.of_body (rs := [.tmp 6, .tmp 7]) (N := 82) (L := []) Try.func45 rfl rfl rfl (by kernel_rfl) rfl (Mem.refl w) ?_
  refine HW.seq (HW.region [(0, .st), (1, .st)] rfl rfl ?_)
  refine Plan.assign (v := .int _ _) rfl rfl rfl ?_
  refine Plan.assign (v := .int _ _) rfl rfl rfl ?_
  refine Plan.done ?_
  refine HW.seq (HW.region [(0, .st), (1, .st)] rfl rfl ?_)
  refine Plan.assign (v := .int _ _) rfl rfl rfl ?_
  refine Plan.assign (v := .int _ _) rfl rfl rfl ?_
  refine Plan.done ?_
  refine HW.seq ?_
  refine HW.seq (HW.region [(0, .st)] rfl rfl ?_)
  refine Plan.assign (v := .int _ _) rfl rfl rfl ?_
  refine Plan.done ?_
  refine HW.block ?_
  refine HW.loopC (G := IRG) [6, 7, 8, 9, 10, 11, 12, 13, 14, 15, 16, 17, 18, 19, 20, 21, 22, 23, 24, 25, 26, 27, 28, 29, 30, 31, 32, 33, 34, 35, 36, 37, 38, 39, 40, 41, 42, 43, 44, 45, 46, 47, 48, 49, 50, 51, 52, 53, 54, 55, 56, 57, 58, 59, 60, 61, 62, 63, 64, 65, 66, 67, 68, 69, 70, 71, 72, 73, 74, 75, 76, 77, 78, 79] (fun g => [(10, int g.k), (8, int g.lo), (9, int g.hi)]) (fun g => g.k ≤ ps.length ∧ (-100000000 ≤ g.lo ∧ g.lo ≤ 100000000) ∧ (-100000000 ≤ g.hi ∧ g.hi ≤ 100000000) ∧ ∀ x, (g.lo ≤ x ∧ x ≤ g.hi) ↔ (-1000 ≤ x ∧ x ≤ 1000 ∧ ∀ j, j < g.k → s ≤ side ps (x, y) j)) (fun g => ps.length - g.k) (⟨0, -1000, 1000⟩) ⟨rfl, rfl, rfl, trivial⟩ (⟨Nat.zero_le _, by decide, by decide, fun x => ⟨fun h => ⟨h.1, h.2, fun j hj => absurd hj (Nat.not_lt_zero _)⟩, fun h => ⟨h.1, h.2.1⟩⟩⟩) (fun g F hok => ?_)
  obtain ⟨k, lo, hi⟩ := g
  obtain ⟨hk, hlo, hhi, hall⟩ := hok
  simp only at hk hlo hhi hall
  dsimp only
  refine HW.seq ?_
  refine HW.seq (HW.region [(0, .st), (1, .st), (2, .st), (3, .st)] rfl rfl ?_)
  refine Plan.move (v := .int _ _) rfl rfl rfl ?_
  refine Plan.move (v := .slice _ _ _) rfl rfl rfl ?_
  refine Plan.len rfl rfl slV rfl ?_
  refine Plan.cmp2 rfl rfl rfl rfl rfl (fun h18 => ?_) (fun h18 => ?_)
  · replace h18 := of_decide_eq_true h18
    have hlt : k < ps.length := by omega
    have hlt2 : (k + 1) % ps.length < ps.length := Nat.mod_lt _ (by omega)
    have hmod : ((k : Int) + 1) % (ps.length : Int) = (((k + 1) % ps.length : Nat) : Int) := by rw [Int.natCast_emod, Int.natCast_add]; rfl
    obtain ⟨a1, rfl, l1⟩ := hp k hlt
    obtain ⟨a2, e2, l2⟩ := hp ((k + 1) % ps.length) hlt2
    obtain rfl : a1 = a2 := by injection e2
    obtain ⟨⟨_, _⟩, ⟨_, _⟩⟩ := hbd _ (List.getElem_mem hlt)
    obtain ⟨⟨_, _⟩, ⟨_, _⟩⟩ := hbd _ (List.getElem_mem hlt2)
    have m1 := mul_bd (a := ps[(k + 1) % ps.length].1 - ps[k].1) (b := y - ps[k].2) (N := 2000) (M := 2000) ⟨by omega, by omega⟩ ⟨by omega, by omega⟩
    have m2 := mul_bd (a := ps[(k + 1) % ps.length].2 - ps[k].2) (b := ps[k].1) (N := 2000) (M := 1000) ⟨by omega, by omega⟩ ⟨by omega, by omega⟩
    obtain ⟨R, hR⟩ : ∃ R, R = (ps[(k + 1) % ps.length].1 - ps[k].1) * (y - ps[k].2) + (ps[(k + 1) % ps.length].2 - ps[k].2) * ps[k].1 - s := ⟨_, rfl⟩
    obtain ⟨D, hD⟩ : ∃ D, D = ps[(k + 1) % ps.length].2 - ps[k].2 := ⟨_, rfl⟩
    have key : ∀ x, s ≤ side ps (x, y) k ↔ D * x ≤ R := fun x => by
      have e : side ps (x, y) k = (ps[(k + 1) % ps.length].1 - ps[k].1) * (y - ps[k].2) - (ps[(k + 1) % ps.length].2 - ps[k].2) * (x - ps[k].1) := by
        unfold side nx; rw [nth_get hlt, nth_get hlt2]; rfl
      rw [e, Int.mul_sub (ps[(k + 1) % ps.length].2 - ps[k].2) x, hR, hD]; omega
    have hRb : -10000000 ≤ R ∧ R ≤ 10000000 := by omega
    have hDb : -2000 ≤ D ∧ D ≤ 2000 := by omega
    have hstep : ∀ x, (∀ j, j < k + 1 → s ≤ side ps (x, y) j) ↔ ((∀ j, j < k → s ≤ side ps (x, y) j) ∧ D * x ≤ R) := fun x => by
      rw [← key x]
      exact ⟨fun h => ⟨fun j hj => h j (by omega), h k (Nat.lt_succ_self k)⟩, fun h j hj => by rcases Nat.lt_succ_iff_lt_or_eq.1 hj with h3 | rfl; exact h.1 j h3; exact h.2⟩
    refine Plan.done ?_
    refine HW.cond_true rfl ?_
    refine HW.skip ?_
    refine HW.seq ?_
    refine HW.block ?_
    refine HW.seq (HW.region_any [14, 15] [(0, .st), (1, .st), (2, .st), (3, .st), (4, .st), (5, .st), (6, .so), (7, .st), (8, .so), (9, .so), (10, .so), (11, .so), (12, .al), (13, .al), (14, .ef), (15, .ef)] mix (by kernel_rfl) (fun _ _ _ _ _ h => h) (zeros rfl) ?_)
    refine Plan.move (v := .slice _ _ _) rfl rfl rfl ?_
    refine Plan.move (v := .int _ _) rfl rfl rfl ?_
    refine Plan.indexN (k) rfl rfl slV sizV rfl rfl rfl rfl (hlt) ?_
    refine Plan.loadAgg rfl rfl aggV sizV rfl (Sees.old l1 (by simp)) rfl ?_
    refine Plan.move (v := .slice _ _ _) rfl rfl rfl ?_
    refine Plan.move (v := .int _ _) rfl rfl rfl ?_
    refine Plan.so (Plan.arithI rfl rfl rfl rfl rfl (by omega) (Plan.done rfl)) ?_
    refine Plan.move (v := .slice _ _ _) rfl rfl rfl ?_
    refine Plan.so (Plan.len rfl rfl slV rfl (Plan.done rfl)) ?_
    refine Plan.so (Plan.rem rfl rfl rfl rfl (by omega) (Plan.done rfl)) ?_
    refine Plan.so (Plan.indexN ((k + 1) % ps.length) rfl rfl slV sizV rfl rfl rfl hmod (hlt2) (Plan.done rfl)) ?_
    refine Plan.so (Plan.loadAgg rfl rfl aggV sizV rfl (Sees.old l2 (by simp)) rfl (Plan.done rfl)) ?_
    refine Plan.alloc rfl zerV fun b11 => ?_
    refine Plan.alloc rfl zerV fun b12 => ?_
    refine Plan.storeA 1 rfl rfl (hDs (by decide)) sizV rfl rfl rfl rfl rfl rfl ?_
    refine Plan.storeA 0 rfl rfl (hDs (by decide)) sizV rfl rfl rfl rfl rfl rfl ?_
    refine Plan.done ?_
    refine HW.seq (HW.region [(0, .st), (1, .st), (2, .st), (3, .st), (4, .st), (5, .st), (6, .st), (7, .st), (8, .st), (9, .st), (10, .st), (11, .st), (12, .st), (13, .st), (14, .st), (15, .st), (16, .st), (17, .st), (18, .st), (19, .st), (20, .st), (21, .st)] rfl rfl ?_)
    refine Plan.fieldAddr rfl rfl fldV0 rfl ?_
    refine Plan.load (v := .int _ _) rfl rfl aggI rfl (Sees.one 0 rfl rfl) ?_
    refine Plan.fieldAddr rfl rfl fldV0 rfl ?_
    refine Plan.load (v := .int _ _) rfl rfl aggI rfl (Sees.one 1 rfl rfl) ?_
    refine Plan.arithI rfl rfl rfl rfl rfl (by omega) ?_
    refine Plan.move (v := .int _ _) rfl rfl rfl ?_
    refine Plan.fieldAddr rfl rfl fldV1 rfl ?_
    refine Plan.load (v := .int _ _) rfl rfl aggI rfl (Sees.one 1 rfl rfl) ?_
    refine Plan.arithI rfl rfl rfl rfl rfl (by omega) ?_
    refine Plan.arithI rfl rfl rfl rfl rfl (by omega) ?_
    refine Plan.fieldAddr rfl rfl fldV1 rfl ?_
    refine Plan.load (v := .int _ _) rfl rfl aggI rfl (Sees.one 0 rfl rfl) ?_
    refine Plan.fieldAddr rfl rfl fldV1 rfl ?_
    refine Plan.load (v := .int _ _) rfl rfl aggI rfl (Sees.one 1 rfl rfl) ?_
    refine Plan.arithI rfl rfl rfl rfl rfl (by omega) ?_
    refine Plan.fieldAddr rfl rfl fldV0 rfl ?_
    refine Plan.load (v := .int _ _) rfl rfl aggI rfl (Sees.one 1 rfl rfl) ?_
    refine Plan.arithI rfl rfl rfl rfl rfl (by omega) ?_
    refine Plan.arithI rfl rfl rfl rfl rfl (by omega) ?_
    refine Plan.move (v := .int _ _) rfl rfl rfl ?_
    refine Plan.arithI rfl rfl rfl rfl rfl (by omega) ?_
    refine Plan.assign (v := .int _ _) rfl rfl rfl ?_
    refine Plan.done ?_
    refine HW.seq (HW.region [(0, .st), (1, .st), (2, .st), (3, .st), (4, .st), (5, .st)] rfl rfl ?_)
    refine Plan.fieldAddr rfl rfl fldV1 rfl ?_
    refine Plan.load (v := .int _ _) rfl rfl aggI rfl (Sees.one 0 rfl rfl) ?_
    refine Plan.fieldAddr rfl rfl fldV1 rfl ?_
    refine Plan.load (v := .int _ _) rfl rfl aggI rfl (Sees.one 1 rfl rfl) ?_
    refine Plan.arithI rfl rfl rfl rfl rfl (by omega) ?_
    refine Plan.assign (v := .int _ _) rfl rfl rfl ?_
    refine Plan.done ?_
    refine HW.block ?_
    rw [← hR, ← hD]
    refine HW.seq (HW.region [(0, .st), (1, .st), (2, .st)] rfl rfl ?_)
    refine Plan.move (v := .int _ _) rfl rfl rfl ?_
    refine Plan.cmp2 rfl rfl rfl rfl rfl (fun h61 => ?_) (fun h61 => ?_)
    · replace h61 := of_decide_eq_true h61
      have q1 : (R / D).natAbs ≤ R.natAbs := Int.natAbs_ediv_le_natAbs R D
      have q2 : ∀ x, x ≤ R / D ↔ D * x ≤ R := fun x => by rw [Int.le_ediv_iff_mul_le h61, Int.mul_comm]
      refine Plan.assign (v := .bool _) rfl rfl rfl ?_
      refine Plan.done ?_
      refine HW.cond_true rfl ?_
      refine HW.region [(0, .st), (1, .st), (2, .st), (3, .ef), (4, .st), (5, .st)] rfl rfl ?_
      refine Plan.move (v := .int _ _) rfl rfl rfl ?_
      refine Plan.move (v := .int _ _) rfl rfl rfl ?_
      refine Plan.move (v := .int _ _) rfl rfl rfl ?_
      refine Plan.callF [] 0 rfl rfl rfl (.inl rfl) (by simp) (fun w hm => floor_ct R D w ⟨by omega, by omega⟩ h61 (by omega)) ?_   -- tinplate/tinplateref03.floor
      rintro v Ln ⟨rfl, rfl⟩
      refine Plan.min rfl rfl rfl rfl ?_
      refine Plan.assign (v := .int _ _) rfl rfl rfl ?_
      refine Plan.done ?_
      refine HW.region [(0, .st), (1, .st), (2, .st)] rfl rfl ?_
      refine Plan.move (v := .int _ _) rfl rfl rfl ?_
      refine Plan.arithI rfl rfl rfl rfl rfl (by omega) ?_
      refine Plan.assign (v := .int _ _) rfl rfl rfl ?_
      refine Plan.done ?_
      exact ⟨⟨k + 1, lo, minI hi (R / D)⟩, by simp only; omega, ⟨hlt, hlo, by unfold minI; simp only; split <;> omega, fun x => by
            have h1 := hall x
            have h2 := q2 x
            have h3 : x ≤ minI hi (R / D) ↔ x ≤ hi ∧ x ≤ R / D := by unfold minI; split <;> omega
            show (lo ≤ x ∧ x ≤ minI hi (R / D)) ↔ (-1000 ≤ x ∧ x ≤ 1000 ∧ ∀ j, j < k + 1 → s ≤ side ps (x, y) j)
            rw [h3, hstep x, h2]
            constructor
            · rintro ⟨c1, c2, c3⟩; have := h1.1 ⟨c1, c2⟩; exact ⟨this.1, this.2.1, this.2.2, c3⟩
            · rintro ⟨c1, c2, c3, c4⟩; have := h1.2 ⟨c1, c2, c3⟩; exact ⟨this.1, this.2, c4⟩⟩, rfl, Ent.sub (.cons _ (.cons _ (.refl _))), (by repeat (first | exact Agree.havoc _ _ _ | refine Agree.updN ?_ | refine Agree.upd rfl ?_ | refine Agree.updL rfl ?_ | refine Agree.havoc2 rfl ?_)), ⟨rfl, rfl, rfl, trivial⟩⟩
    · replace h61 := of_decide_eq_false h61
      refine Plan.assign (v := .bool _) rfl rfl rfl ?_
      refine Plan.done ?_
      refine HW.cond_false rfl ?_
      refine HW.seq (HW.region [(0, .st), (1, .st), (2, .st)] rfl rfl ?_)
      refine Plan.move (v := .int _ _) rfl rfl rfl ?_
      refine Plan.cmp2 rfl rfl rfl rfl rfl (fun h69 => ?_) (fun h69 => ?_)
      · replace h69 := of_decide_eq_true h69
        have q1 : (R / (-D)).natAbs ≤ R.natAbs := Int.natAbs_ediv_le_natAbs R (-D)
        have q2 : ∀ x, -(R / (-D)) ≤ x ↔ D * x ≤ R := fun x => by
          have h1 : -(R / (-D)) ≤ x ↔ -x ≤ R / (-D) := by omega
          rw [h1, Int.le_ediv_iff_mul_le (by omega), Int.neg_mul_neg, Int.mul_comm]
        refine Plan.assign (v := .bool _) rfl rfl rfl ?_
        refine Plan.done ?_
        refine HW.cond_true rfl ?_
        refine HW.region [(0, .st), (1, .st), (2, .st), (3, .st), (4, .ef), (5, .st), (6, .st), (7, .st)] rfl rfl ?_
        refine Plan.move (v := .int _ _) rfl rfl rfl ?_
        refine Plan.move (v := .int _ _) rfl rfl rfl ?_
        refine Plan.move (v := .int _ _) rfl rfl rfl ?_
        refine Plan.neg rfl rfl rfl (by omega) ?_
        refine Plan.callF [] 0 rfl rfl rfl (.inl rfl) (by simp) (fun w hm => floor_ct R (-D) w ⟨by omega, by omega⟩ (by omega) (by omega)) ?_   -- tinplate/tinplateref03.floor
        rintro v Ln ⟨rfl, rfl⟩
        refine Plan.neg rfl rfl rfl (by omega) ?_
        refine Plan.max rfl rfl rfl rfl ?_
        refine Plan.assign (v := .int _ _) rfl rfl rfl ?_
        refine Plan.done ?_
        refine HW.region [(0, .st), (1, .st), (2, .st)] rfl rfl ?_
        refine Plan.move (v := .int _ _) rfl rfl rfl ?_
        refine Plan.arithI rfl rfl rfl rfl rfl (by omega) ?_
        refine Plan.assign (v := .int _ _) rfl rfl rfl ?_
        refine Plan.done ?_
        exact ⟨⟨k + 1, maxI lo (-(R / (-D))), hi⟩, by simp only; omega, ⟨hlt, by unfold maxI; simp only; split <;> omega, hhi, fun x => by
              have h1 := hall x
              have h2 := q2 x
              have h3 : maxI lo (-(R / (-D))) ≤ x ↔ lo ≤ x ∧ -(R / (-D)) ≤ x := by unfold maxI; split <;> omega
              show (maxI lo (-(R / (-D))) ≤ x ∧ x ≤ hi) ↔ (-1000 ≤ x ∧ x ≤ 1000 ∧ ∀ j, j < k + 1 → s ≤ side ps (x, y) j)
              rw [h3, hstep x, h2]
              constructor
              · rintro ⟨⟨c1, c2⟩, c3⟩; have := h1.1 ⟨c1, c3⟩; exact ⟨this.1, this.2.1, this.2.2, c2⟩
              · rintro ⟨c1, c2, c3, c4⟩; have := h1.2 ⟨c1, c2, c3⟩; exact ⟨⟨this.1, c4⟩, this.2⟩⟩, rfl, Ent.sub (.cons _ (.cons _ (.refl _))), (by repeat (first | exact Agree.havoc _ _ _ | refine Agree.updN ?_ | refine Agree.upd rfl ?_ | refine Agree.updL rfl ?_ | refine Agree.havoc2 rfl ?_)), ⟨rfl, rfl, rfl, trivial⟩⟩
      · replace h69 := of_decide_eq_false h69
        have hD0 : D = 0 := by omega
        have q2 : ∀ x, D * x ≤ R ↔ 0 ≤ R := fun x => by rw [hD0, Int.zero_mul]
        refine Plan.assign (v := .bool _) rfl rfl rfl ?_
        refine Plan.done ?_
        refine HW.cond_false rfl ?_
        refine HW.seq (HW.region [(0, .st), (1, .st), (2, .st)] rfl rfl ?_)
        refine Plan.move (v := .int _ _) rfl rfl rfl ?_
        refine Plan.cmp2 rfl rfl rfl rfl rfl (fun h79 => ?_) (fun h79 => ?_)
        · replace h79 := of_decide_eq_true h79
          refine Plan.assign (v := .bool _) rfl rfl rfl ?_
          refine Plan.done ?_
          refine HW.cond_true rfl ?_
          refine HW.seq (HW.region [(0, .st), (1, .st)] rfl rfl ?_)
          refine Plan.assign (v := .int _ _) rfl rfl rfl ?_
          refine Plan.assign (v := .int _ _) rfl rfl rfl ?_
          refine Plan.done ?_
          exact HW.ret ⟨rfl, _, [], .tmp rfl (.tmp rfl .nil), List.nil_sublist _, ⟨0, -1, rfl, by decide, by decide, fun x => ⟨fun h => by omega, fun h => by have := (q2 x).1 ((key x).1 (h.2.2 k hlt)); omega⟩⟩, rfl⟩
        · replace h79 := of_decide_eq_false h79
          refine Plan.assign (v := .bool _) rfl rfl rfl ?_
          refine Plan.done ?_
          refine HW.cond_false rfl ?_
          refine HW.skip ?_
          refine HW.region [(0, .st), (1, .st), (2, .st)] rfl rfl ?_
          refine Plan.move (v := .int _ _) rfl rfl rfl ?_
          refine Plan.arithI rfl rfl rfl rfl rfl (by omega) ?_
          refine Plan.assign (v := .int _ _) rfl rfl rfl ?_
          refine Plan.done ?_
          exact ⟨⟨k + 1, lo, hi⟩, by simp only; omega, ⟨hlt, hlo, hhi, fun x => by
                show (lo ≤ x ∧ x ≤ hi) ↔ (-1000 ≤ x ∧ x ≤ 1000 ∧ ∀ j, j < k + 1 → s ≤ side ps (x, y) j)
                rw [hstep x, hall x, q2 x]
                exact ⟨fun h => ⟨h.1, h.2.1, h.2.2, by omega⟩, fun h => ⟨h.1, h.2.1, h.2.2.1⟩⟩⟩, rfl, Ent.sub (.cons _ (.cons _ (.refl _))), (by repeat (first | exact Agree.havoc _ _ _ | refine Agree.updN ?_ | refine Agree.upd rfl ?_ | refine Agree.updL rfl ?_ | refine Agree.havoc2 rfl ?_)), ⟨rfl, rfl, rfl, trivial⟩⟩
  · replace h18 := of_decide_eq_false h18
    refine Plan.done ?_
    refine HW.cond_false rfl ?_
    refine HW.exit ?_
    refine HW.seq (HW.region [(0, .st), (1, .st), (2, .st), (3, .st)] rfl rfl ?_)
    refine Plan.move (v := .int _ _) rfl rfl rfl ?_
    refine Plan.move (v := .int _ _) rfl rfl rfl ?_
    refine Plan.assign (v := .int _ _) rfl rfl rfl ?_
    refine Plan.assign (v := .int _ _) rfl rfl rfl ?_
    refine Plan.done ?_
    exact HW.ret ⟨rfl, _, [], .tmp rfl (.tmp rfl .nil), List.nil_sublist _, ⟨lo, hi, rfl, hlo, hhi, fun x => by rw [hall x, show k = ps.length by omega]⟩, rfl⟩

def fI (ps : List Pt) (k : Nat) : Int := cntRow fun x => InI ps (x, (k : Nat) - 1000)
def fC (ps : List Pt) (k : Nat) : Int := cntRow fun x => InC ps (x, (k : Nat) - 1000)

set_option maxRecDepth 10000 in
set_option maxHeartbeats 2000000 in
theorem rPoints_ct (A : Option Addr) (ps : List Pt) (n c : Nat) (w : World) (hp : Rd enc 2 w A ps) (hn : n = ps.length) :
    Ct P 20 #[.slice A n c] w [] (fun r L => r = .tuple #[int (PointsF ps).1, int (PointsF ps).2.1, int (PointsF ps).2.2] ∧ L = []) := by
  subst hn
  refine Ct.of_body (rs := [.tmp 2, .tmp 3, .tmp 4]) (N := 47) (L := []) Try.func20 rfl rfl rfl (by kernel_rfl) rfl (Mem.refl w) ?_
  refine HW.seq (HW.region [(0, .st), (1, .st), (2, .st)] rfl rfl ?_)
  refine Plan.assign (v := .int _ _) rfl rfl rfl ?_
  refine Plan.assign (v := .int _ _) rfl rfl rfl ?_
  refine Plan.assign (v := .int _ _) rfl rfl rfl ?_
  refine Plan.done ?_
  refine HW.seq ?_
  refine HW.seq (HW.region [(0, .st), (1, .ef), (2, .st)] rfl rfl ?_)
  refine Plan.move (v := .slice _ _ _) rfl rfl rfl ?_
  refine Plan.callF [] 0 rfl rfl rfl (.inl rfl) (by simp) (fun w hm => rvalid_ct A ps _ c w (hp.mem hm) rfl) ?_   -- tinplate/tinplateref03.Valid
  rintro v Ln ⟨rfl, rfl⟩
  refine Plan.splitB (fun h11 => ?_) (fun h11 => ?_)
  · skip
    obtain ⟨v1, v2, v3, v4⟩ := validF_spec h11
    have sI : ∀ k : Nat, -(2001 * (k : Int)) ≤ sumN (fI ps) k ∧ sumN (fI ps) k ≤ 2001 * k := fun k => sumN_bd k fun j _ => cntRow_bd _
    have sC : ∀ k : Nat, -(2001 * (k : Int)) ≤ sumN (fC ps) k ∧ sumN (fC ps) k ≤ 2001 * k := fun k => sumN_bd k fun j _ => cntRow_bd _
    refine Plan.not rfl rfl rfl ?_
    refine Plan.done ?_
    refine HW.cond_false rfl ?_
    refine HW.skip ?_
    refine HW.seq (HW.region [(0, .st), (1, .st)] rfl rfl ?_)
    refine Plan.assign (v := .int _ _) rfl rfl rfl ?_
    refine Plan.assign (v := .int _ _) rfl rfl rfl ?_
    refine Plan.done ?_
    refine HW.seq ?_
    refine HW.seq (HW.region [(0, .st)] rfl rfl ?_)
    refine Plan.assign (v := .int _ _) rfl rfl rfl ?_
    refine Plan.done ?_
    refine HW.block ?_
    refine HW.loopC (G := Nat) [5, 6, 7, 8, 9, 13, 14, 15, 16, 17, 18, 19, 20, 21, 22, 23, 24, 25, 26, 27, 28, 29, 30, 31, 32, 33, 34, 35, 36, 37, 38, 39, 40, 41, 42] (fun g => [(7, int (-1000 + (g : Int))), (5, int (sumN (fI ps) g)), (6, int (sumN (fC ps) g))]) (fun g => g ≤ 2001) (fun g => 2001 - g) (0) ⟨rfl, rfl, rfl, trivial⟩ (Nat.zero_le _) (fun g F hok => ?_)
    obtain ⟨k, rfl⟩ : ∃ k, k = g := ⟨g, rfl⟩
    have b1 := sI k
    have b2 := sC k
    refine HW.seq ?_
    refine HW.seq (HW.region [(0, .st), (1, .st)] rfl rfl ?_)
    refine Plan.move (v := .int _ _) rfl rfl rfl ?_
    refine Plan.cmp2 rfl rfl rfl rfl rfl (fun h14 => ?_) (fun h14 => ?_)
    · replace h14 := of_decide_eq_true h14
      have hk : k < 2001 := by omega
      refine Plan.done ?_
      refine HW.cond_true rfl ?_
      refine HW.skip ?_
      refine HW.seq ?_
      refine HW.block ?_
      refine HW.seq (HW.region [(0, .st), (1, .st), (2, .ef), (3, .st), (4, .st), (5, .st), (6, .st), (7, .st)] rfl rfl ?_)
      refine Plan.move (v := .slice _ _ _) rfl rfl rfl ?_
      refine Plan.move (v := .int _ _) rfl rfl rfl ?_
      refine Plan.callF [] 0 rfl rfl rfl (.inl rfl) (by simp) (fun w hm => inRow_ct A ps (-1000 + (k : Int)) 1 _ c w (hp.mem hm) rfl (by omega) v3 ⟨by omega, by omega⟩ (.inr rfl)) ?_   -- tinplate/tinplateref03.inRow
      rintro v Ln ⟨⟨lo1, hi1, rfl, d1, d2, d3⟩, rfl⟩
      have z1 : maxI 0 (hi1 - lo1 + 1) = fI ps k := by
        unfold fI
        rw [cntRow_lohi (lo := lo1) (hi := hi1) (fun x => by rw [d3 x, show ((k : Nat) : Int) - 1000 = -1000 + (k : Int) by omega]; exact Iff.rfl)]
      have z1b := cntRow_bd fun x => InI ps (x, (k : Nat) - 1000)
      have z1b : -2001 ≤ fI ps k ∧ fI ps k ≤ 2001 := z1b
      refine Plan.move (v := .tuple _) rfl rfl rfl ?_
      refine Plan.extract (v := .int _ _) rfl rfl rfl rfl ?_
      refine Plan.extract (v := .int _ _) rfl rfl rfl rfl ?_
      refine Plan.assign (v := .int _ _) rfl rfl rfl ?_
      refine Plan.assign (v := .int _ _) rfl rfl rfl ?_
      refine Plan.done ?_
      refine HW.seq (HW.region [(0, .st), (1, .st), (2, .st), (3, .st), (4, .st), (5, .st), (6, .st), (7, .st)] rfl rfl ?_)
      refine Plan.move (v := .int _ _) rfl rfl rfl ?_
      refine Plan.move (v := .int _ _) rfl rfl rfl ?_
      refine Plan.move (v := .int _ _) rfl rfl rfl ?_
      refine Plan.arithI rfl rfl rfl rfl rfl (by omega) ?_
      refine Plan.arithI rfl rfl rfl rfl rfl (by omega) ?_
      refine Plan.max rfl rfl rfl rfl ?_
      refine Plan.arithI rfl rfl rfl rfl rfl (by omega) ?_
      refine Plan.assign (v := .int _ _) rfl rfl rfl ?_
      refine Plan.done ?_
      refine HW.seq (HW.region [(0, .st), (1, .st), (2, .ef), (3, .st), (4, .st), (5, .st), (6, .st), (7, .st)] rfl rfl ?_)
      refine Plan.move (v := .slice _ _ _) rfl rfl rfl ?_
      refine Plan.move (v := .int _ _) rfl rfl rfl ?_
      refine Plan.callF [] 0 rfl rfl rfl (.inl rfl) (by simp) (fun w hm => inRow_ct A ps (-1000 + (k : Int)) 0 _ c w (hp.mem hm) rfl (by omega) v3 ⟨by omega, by omega⟩ (.inl rfl)) ?_   -- tinplate/tinplateref03.inRow
      rintro v Ln ⟨⟨lo2, hi2, rfl, d4, d5, d6⟩, rfl⟩
      have z2 : maxI 0 (hi2 - lo2 + 1) = fC ps k := by
        unfold fC
        rw [cntRow_lohi (lo := lo2) (hi := hi2) (fun x => by rw [d6 x, show ((k : Nat) : Int) - 1000 = -1000 + (k : Int) by omega]; exact Iff.rfl)]
      have z2b := cntRow_bd fun x => InC ps (x, (k : Nat) - 1000)
      have z2b : -2001 ≤ fC ps k ∧ fC ps k ≤ 2001 := z2b
      refine Plan.move (v := .tuple _) rfl rfl rfl ?_
      refine Plan.extract (v := .int _ _) rfl rfl rfl rfl ?_
      refine Plan.extract (v := .int _ _) rfl rfl rfl rfl ?_
      refine Plan.assign (v := .int _ _) rfl rfl rfl ?_
      refine Plan.assign (v := .int _ _) rfl rfl rfl ?_
      refine Plan.done ?_
      refine HW.region [(0, .st), (1, .st), (2, .st), (3, .st), (4, .st), (5, .st), (6, .st), (7, .st)] rfl rfl ?_
      refine Plan.move (v := .int _ _) rfl rfl rfl ?_
      refine Plan.move (v := .int _ _) rfl rfl rfl ?_
      refine Plan.move (v := .int _ _) rfl rfl rfl ?_
      refine Plan.arithI rfl rfl rfl rfl rfl (by omega) ?_
      refine Plan.arithI rfl rfl rfl rfl rfl (by omega) ?_
      refine Plan.max rfl rfl rfl rfl ?_
      refine Plan.arithI rfl rfl rfl rfl rfl (by omega) ?_
      refine Plan.assign (v := .int _ _) rfl rfl rfl ?_
      refine Plan.done ?_
      refine HW.region [(0, .st), (1, .st), (2, .st)] rfl rfl ?_
      refine Plan.move (v := .int _ _) rfl rfl rfl ?_
      refine Plan.arithI rfl rfl rfl rfl rfl (by omega) ?_
      refine Plan.assign (v := .int _ _) rfl rfl rfl ?_
      refine Plan.done ?_
      exact ⟨k + 1, by simp only; omega, hk, rfl, Ent.sub (.refl _), (by repeat (first | exact Agree.havoc _ _ _ | refine Agree.updN ?_ | refine Agree.upd rfl ?_ | refine Agree.updL rfl ?_ | refine Agree.havoc2 rfl ?_)), ⟨congrArg int (show -1000 + (k : Int) + 1 = -1000 + ((k + 1 : Nat) : Int) by omega), congrArg int (show sumN (fI ps) k + maxI 0 (hi1 - lo1 + 1) = sumN (fI ps) (k + 1) by rw [z1]; rfl), congrArg int (show sumN (fC ps) k + maxI 0 (hi2 - lo2 + 1) = sumN (fC ps) (k + 1) by rw [z2]; rfl), trivial⟩⟩
    · replace h14 := of_decide_eq_false h14
      refine Plan.done ?_
      refine HW.cond_false rfl ?_
      refine HW.exit ?_
      refine HW.seq (HW.region [(0, .st), (1, .st), (2, .st), (3, .st), (4, .st), (5, .st), (6, .st)] rfl rfl ?_)
      refine Plan.move (v := .int _ _) rfl rfl rfl ?_
      refine Plan.move (v := .int _ _) rfl rfl rfl ?_
      refine Plan.move (v := .int _ _) rfl rfl rfl ?_
      refine Plan.arithI rfl rfl rfl rfl rfl (by omega) ?_
      refine Plan.assign (v := .int _ _) rfl rfl rfl ?_
      refine Plan.assign (v := .int _ _) rfl rfl rfl ?_
      refine Plan.assign (v := .int _ _) rfl rfl rfl ?_
      refine Plan.done ?_
      obtain ⟨f1, f2, f3⟩ := points_pick h11
      have hk : k = 2001 := by omega
      subst hk
      have g1 : sumN (fI ps) 2001 = cI ps := rfl
      have g2 : sumN (fC ps) 2001 = cC ps := rfl
      have g3 : cC ps - cI ps = onC ps := by omega
      exact HW.ret ⟨rfl, _, [], .tmp rfl (.tmp rfl (.tmp rfl .nil)), List.nil_sublist _, (by rw [f1, ← g3]; rfl), rfl⟩
  · skip
    refine Plan.not rfl rfl rfl ?_
    refine Plan.done ?_
    refine HW.cond_true rfl ?_
    refine HW.seq (HW.region [(0, .st), (1, .st), (2, .st)] rfl rfl ?_)
    refine Plan.assign (v := .int _ _) rfl rfl rfl ?_
    refine Plan.assign (v := .int _ _) rfl rfl rfl ?_
    refine Plan.assign (v := .int _ _) rfl rfl rfl ?_
    refine Plan.done ?_
    exact HW.ret ⟨rfl, _, [], .tmp rfl (.tmp rfl (.tmp rfl .nil)), List.nil_sublist _, (by unfold PointsF; simp [h11]; first | rfl | skip), rfl⟩

end Go.Proofs.Ytoghphikfkdkmaa.V
