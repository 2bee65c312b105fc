/-
  The specification's Valid, Area, Place, Extreme (package tinplateref03).
-/
import Derived.Test.YtjmklbkcpjmcaaaV22
import Derived.Test.YtjmklbkcpjmcaaaG1
namespace Go.Proofs.Ytjmklbkcpjmcaaa.V
open Go Go.RowKit Go.Proofs.Ytjmklbkcpjmcaaa.H
set_option linter.unusedVariables false
set_option linter.unusedSimpArgs false

theorem any_okB {ps : List Pt} : ps.any (fun q => !okB q.1 q.2) = false ↔ ∀ k, k < ps.length → okB (nth ps k).1 (nth ps k).2 = true := by
  rw [List.any_eq_false]
  constructor
  · intro h k hk
    have := h _ (nth_mem hk)
    simpa using this
  · intro h x hx
    obtain ⟨k, hk, rfl⟩ := List.getElem_of_mem hx
    have := h k hk
    rw [nth_get hk] at this
    simpa using this

/-- what the specification asks of a polygon -/
structure RV (ps : List Pt) : Prop where
  l3 : 3 ≤ ps.length
  l32 : ps.length ≤ 32
  ok : ∀ k, k < ps.length → okB (nth ps k).1 (nth ps k).2 = true
  low : ∀ i, 0 < i → i < ps.length → lt2 (nth ps 0) (nth ps i)
  left : ∀ i j, i < ps.length → j < ps.length → j ≠ i → j ≠ (i + 1) % ps.length → 0 < side ps (nth ps j) i

theorem RV.bd {ps : List Pt} (h : ∀ k, k < ps.length → okB (nth ps k).1 (nth ps k).2 = true) : ∀ q ∈ ps, Bd2 100000 q.1 q.2 := fun q hq => by
  obtain ⟨k, hk, rfl⟩ := List.getElem_of_mem hq
  have := h k hk
  rw [nth_get hk] at this
  exact (okB_bd this).mono (by omega)

theorem valid_iff (ps : List Pt) : validF ps = true ↔ RV ps := by
  constructor
  · intro h
    obtain ⟨h1, h2, h3, h4⟩ := validF_spec h
    have hs := valid_sr h
    have hn : Near ps := near_of_bd fun q hq => (h3 q hq).mono (by omega)
    refine ⟨h1, h2, ?_, fun i h0 hi => ?_, fun i j hi hj n1 n2 => hs.cv.left i j hi hj n1 n2⟩
    · refine any_okB.1 ?_
      simp only [validF, Bool.and_eq_true, Bool.not_eq_true', Bool.or_eq_false_iff] at h
      exact h.1.2
    · have hb := hn _ (nth_mem (ps := ps) (by omega : 0 < ps.length)) _ (nth_mem hi)
      exact (lt2_hh hb.1 hb.2).2 (hs.low i h0 hi)
  · intro h
    have h3 := h.l3
    have hn : Near ps := near_of_bd (RV.bd h.ok)
    have hcv : CV ps := ⟨h.l3, fun k j hk hj n1 n2 => h.left k j hk hj n1 n2, fun j h0 hj => by
      have hb := hn _ (nth_mem (ps := ps) (by omega : 0 < ps.length)) _ (nth_mem hj)
      exact (lt2_hh hb.1 hb.2).1 (h.low j h0 hj)⟩
    exact valid_of_sr (hcv.sr hn) h.l32 (any_okB.2 h.ok)

theorem vfalse {ps : List Pt} (h : RV ps → False) : validF ps = false := by
  cases hv : validF ps with
  | true => exact absurd ((valid_iff ps).1 hv) h
  | false => rfl

set_option maxRecDepth 10000 in
set_option maxHeartbeats 3000000 in
theorem rvalid_ct (A : Option Addr) (ps : List Pt) (n c : Nat) (w : World) (hp : Rd enc 2 w A ps) (hn : n = ps.length) :
    Ct P 79 #[.slice A n c] w [] (fun v L => v = .bool (validF ps) ∧ L = []) := by
  subst hn
  have hF : (RV ps → False) → Value.bool false = .bool (validF ps) := fun h => by rw [vfalse h]
  refine Ct.of_body (rs := [.tmp 2]) (N := 78) (L := []) Try.func79 rfl rfl rfl (by kernel_rfl) rfl (Mem.refl w) ?_
  refine HW.seq (HW.region [(0, .st)] rfl rfl ?_)
  refine Plan.assign (v := .bool _) rfl rfl rfl ?_
  refine Plan.done ?_
  refine HW.seq (HW.region [(0, .st), (1, .st), (2, .st)] rfl rfl ?_)
  refine Plan.move (v := .slice _ _ _) rfl rfl rfl ?_
  refine Plan.len rfl rfl slV rfl ?_
  refine Plan.assign (v := .int _ _) rfl rfl rfl ?_
  refine Plan.done ?_
  refine HW.seq ?_
  refine HW.seq (HW.region [(0, .st), (1, .st), (2, .st), (3, .st), (4, .st), (5, .st)] rfl rfl ?_)
  refine Plan.move (v := .int _ _) rfl rfl rfl ?_
  refine Plan.cmp2 rfl rfl rfl rfl rfl (fun h11 => ?_) (fun h11 => ?_)
  · replace h11 := of_decide_eq_true h11
    refine Plan.move (v := .bool _) rfl rfl rfl ?_
    refine Plan.no rfl rfl ?_
    refine Plan.no rfl rfl ?_
    refine Plan.pick (v := .bool _) rfl rfl rfl rfl ?_
    refine Plan.done ?_
    refine HW.cond_true rfl ?_
    refine HW.seq (HW.region [(0, .st)] rfl rfl ?_)
    refine Plan.assign (v := .bool _) rfl rfl rfl ?_
    refine Plan.done ?_
    exact HW.ret ⟨rfl, _, [], .tmp rfl .nil, List.nil_sublist _, hF (fun h => by have := h.l3; have := h.l32; omega), rfl⟩
  · replace h11 := of_decide_eq_false h11
    refine Plan.move (v := .bool _) rfl rfl rfl ?_
    refine Plan.move (v := .int _ _) rfl rfl rfl ?_
    refine Plan.cmp2 rfl rfl rfl rfl rfl (fun h14 => ?_) (fun h14 => ?_)
    · replace h14 := of_decide_eq_true h14
      refine Plan.pick (v := .bool _) rfl rfl rfl rfl ?_
      refine Plan.done ?_
      refine HW.cond_true rfl ?_
      refine HW.seq (HW.region [(0, .st)] rfl rfl ?_)
      refine Plan.assign (v := .bool _) rfl rfl rfl ?_
      refine Plan.done ?_
      exact HW.ret ⟨rfl, _, [], .tmp rfl .nil, List.nil_sublist _, hF (fun h => by have := h.l3; have := h.l32; omega), rfl⟩
    · replace h14 := of_decide_eq_false h14
      refine Plan.pick (v := .bool _) rfl rfl rfl rfl ?_
      refine Plan.done ?_
      refine HW.cond_false rfl ?_
      refine HW.skip ?_
      refine HW.seq ?_
      refine HW.seq (HW.region [(0, .st)] rfl rfl ?_)
      refine Plan.assign (v := .int _ _) rfl rfl rfl ?_
      refine Plan.done ?_
      refine HW.block ?_
      refine HW.loopC (G := Nat) [2, 4, 16, 17, 18, 19, 20, 21, 22, 23, 24, 25, 26] (fun g => [(4, int g)]) (fun g => g ≤ ps.length ∧ ∀ j, j < g → okB (nth ps j).1 (nth ps j).2 = true) (fun g => ps.length - g) (0) ⟨rfl, trivial⟩ (⟨Nat.zero_le _, fun j hj => absurd hj (Nat.not_lt_zero _)⟩) (fun g F hok => ?_)
      obtain ⟨hk, hall⟩ := hok
      refine HW.seq ?_
      refine HW.seq (HW.region [(0, .st), (1, .st), (2, .st)] rfl rfl ?_)
      refine Plan.move (v := .int _ _) rfl rfl rfl ?_
      refine Plan.move (v := .int _ _) rfl rfl rfl ?_
      refine Plan.cmp2 rfl rfl rfl rfl rfl (fun h18 => ?_) (fun h18 => ?_)
      · replace h18 := of_decide_eq_true h18
        have hlt : g < ps.length := by omega
        obtain ⟨a1, rfl, l1⟩ := hp g hlt
        refine Plan.done ?_
        refine HW.cond_true rfl ?_
        refine HW.skip ?_
        refine HW.seq ?_
        refine HW.block ?_
        refine HW.seq (HW.region [(0, .st), (1, .st), (2, .st), (3, .st), (4, .ef), (5, .st)] rfl rfl ?_)
        refine Plan.move (v := .slice _ _ _) rfl rfl rfl ?_
        refine Plan.move (v := .int _ _) rfl rfl rfl ?_
        refine Plan.indexN (g) rfl rfl slV sizV rfl rfl rfl rfl (hlt) ?_
        refine Plan.loadAgg rfl rfl aggV sizV rfl (Sees.old l1 (by simp)) rfl ?_
        refine Plan.callF [] 0 rfl rfl rfl (.inl rfl) (by simp) (fun w hm => Good_ct _ w) ?_   -- tinplate/tinplateref03.Good
        rintro v Ln ⟨rfl, rfl⟩
        refine Plan.splitB (fun h25 => ?_) (fun h25 => ?_)
        · skip
          refine Plan.not rfl rfl rfl ?_
          refine Plan.done ?_
          refine HW.cond_false rfl ?_
          refine HW.skip ?_
          refine HW.region [(0, .st), (1, .st), (2, .st)] rfl rfl ?_
          refine Plan.move (v := .int _ _) rfl rfl rfl ?_
          refine Plan.arithI rfl rfl rfl rfl rfl (by omega) ?_
          refine Plan.assign (v := .int _ _) rfl rfl rfl ?_
          refine Plan.done ?_
          exact ⟨g + 1, by simp only; omega, ⟨hlt, fun j hj => by rcases Nat.lt_succ_iff_lt_or_eq.1 hj with h | rfl; exact hall j h; rw [nth_get hlt]; exact h25⟩, rfl, Ent.sub (.refl _), (by repeat (first | exact Agree.havoc _ _ _ | refine Agree.updN ?_ | refine Agree.upd rfl ?_ | refine Agree.updL rfl ?_ | refine Agree.havoc2 rfl ?_)), ⟨rfl, trivial⟩⟩
        · skip
          refine Plan.not rfl rfl rfl ?_
          refine Plan.done ?_
          refine HW.cond_true rfl ?_
          refine HW.seq (HW.region [(0, .st)] rfl rfl ?_)
          refine Plan.assign (v := .bool _) rfl rfl rfl ?_
          refine Plan.done ?_
          exact HW.ret ⟨rfl, _, [], .tmp rfl .nil, List.nil_sublist _, hF (fun h => by have := h.ok g hlt; rw [nth_get hlt, h25] at this; cases this), rfl⟩
      · replace h18 := of_decide_eq_false h18
        have hok1 : ∀ k, k < ps.length → okB (nth ps k).1 (nth ps k).2 = true := fun k hk2 => hall k (by omega)
        have hbd := RV.bd hok1
        clear hall
        refine Plan.done ?_
        refine HW.cond_false rfl ?_
        refine HW.exit ?_
        refine HW.seq ?_
        refine HW.seq (HW.region [(0, .st)] rfl rfl ?_)
        refine Plan.assign (v := .int _ _) rfl rfl rfl ?_
        refine Plan.done ?_
        refine HW.block ?_
        refine HW.loopC (G := Nat) [2, 5, 6, 7, 27, 28, 29, 30, 31, 32, 33, 34, 35, 36, 37, 38, 39, 40, 41, 42, 43, 44, 45, 46, 47, 48, 49, 50, 51, 52, 53, 54, 55, 56, 57, 58, 59, 60, 61, 62, 63, 64, 65, 66, 67, 68, 69, 70, 71, 72, 73, 74, 75, 76, 77] (fun g => [(5, int g)]) (fun g => g ≤ ps.length ∧ (∀ a, 0 < a → a < g → lt2 (nth ps 0) (nth ps a)) ∧ ∀ a b, a < g → b < ps.length → b ≠ a → b ≠ (a + 1) % ps.length → 0 < side ps (nth ps b) a) (fun g => ps.length - g) (0) ⟨rfl, trivial⟩ (⟨Nat.zero_le _, fun a _ ha => absurd ha (Nat.not_lt_zero _), fun a b ha => absurd ha (Nat.not_lt_zero _)⟩) (fun g F hok => ?_)
        obtain ⟨i, rfl⟩ : ∃ i, i = g := ⟨g, rfl⟩
        obtain ⟨hi, hlo, hle⟩ := hok
        refine HW.seq ?_
        refine HW.seq (HW.region [(0, .st), (1, .st), (2, .st)] rfl rfl ?_)
        refine Plan.move (v := .int _ _) rfl rfl rfl ?_
        refine Plan.move (v := .int _ _) rfl rfl rfl ?_
        refine Plan.cmp2 rfl rfl rfl rfl rfl (fun h29 => ?_) (fun h29 => ?_)
        · replace h29 := of_decide_eq_true h29
          have hlt : i < ps.length := by omega
          have h0 : 0 < ps.length := by omega
          have hlt2 : (i + 1) % ps.length < ps.length := Nat.mod_lt _ h0
          have hmod : ((i : Int) + 1) % (ps.length : Int) = (((i + 1) % ps.length : Nat) : Int) := by rw [Int.natCast_emod, Int.natCast_add]; rfl
          obtain ⟨a1, rfl, l1⟩ := hp i hlt
          obtain ⟨a0, e0, l0⟩ := hp 0 h0
          obtain rfl : a1 = a0 := by injection e0
          obtain ⟨a2, e2, l2⟩ := hp ((i + 1) % ps.length) hlt2
          obtain rfl : a1 = a2 := by injection e2
          refine Plan.done ?_
          refine HW.cond_true rfl ?_
          refine HW.skip ?_
          refine HW.seq ?_
          refine HW.block ?_
          refine HW.seq ?_
          refine HW.seq (HW.region_any [] [(0, .st), (1, .st), (2, .st), (3, .st), (4, .st), (5, .st), (6, .st), (7, .st), (8, .st), (9, .st), (10, .ef), (11, .st), (12, .st)] mix (by kernel_rfl) (fun _ _ _ _ _ h => h) (zeros rfl) ?_)
          refine Plan.move (v := .int _ _) rfl rfl rfl ?_
          refine Plan.cmp2 rfl rfl rfl rfl rfl (fun h33 => ?_) (fun h33 => ?_)
          · replace h33 := of_decide_eq_true h33
            refine Plan.move (v := .bool _) rfl rfl rfl ?_
            refine Plan.move (v := .slice _ _ _) rfl rfl rfl ?_
            refine Plan.indexN (0) rfl rfl slV sizV rfl rfl rfl rfl (h0) ?_
            refine Plan.loadAgg rfl rfl aggV sizV rfl (Sees.old l0 (by simp)) rfl ?_
            refine Plan.move (v := .slice _ _ _) rfl rfl rfl ?_
            refine Plan.move (v := .int _ _) rfl rfl rfl ?_
            refine Plan.indexN (i) rfl rfl slV sizV rfl rfl rfl rfl (hlt) ?_
            refine Plan.loadAgg rfl rfl aggV sizV rfl (Sees.old l1 (by simp)) rfl ?_
            refine Plan.callF [] 0 rfl rfl rfl (.inl rfl) (by simp) (fun w hm => Lower_ct _ _ w) ?_   -- tinplate/tinplateref03.Lower
            rintro v Ln ⟨rfl, rfl⟩
            refine Plan.splitB (fun h42 => ?_) (fun h42 => ?_)
            · skip
              have hlow1 : 0 < i → lt2 (nth ps 0) (nth ps i) := fun _ => by rw [nth_get h0, nth_get hlt]; exact of_decide_eq_true h42
              refine Plan.not rfl rfl rfl ?_
              refine Plan.pick (v := .bool _) rfl rfl rfl rfl ?_
              refine Plan.done ?_
              refine HW.cond_false rfl ?_
              refine HW.skip ?_
              refine HW.seq (HW.region [(0, .st), (1, .st), (2, .st), (3, .st), (4, .st)] rfl rfl ?_)
              refine Plan.move (v := .int _ _) rfl rfl rfl ?_
              refine Plan.arithI rfl rfl rfl rfl rfl (by omega) ?_
              refine Plan.move (v := .int _ _) rfl rfl rfl ?_
              refine Plan.rem rfl rfl rfl rfl (by omega) ?_
              refine Plan.assign (v := .int _ _) rfl rfl rfl ?_
              refine Plan.done ?_
              refine HW.seq (HW.region [(0, .st)] rfl rfl ?_)
              refine Plan.assign (v := .int _ _) rfl rfl rfl ?_
              refine Plan.done ?_
              refine HW.block ?_
              refine HW.loopC (G := Nat) [2, 7, 49, 50, 51, 52, 53, 54, 55, 56, 57, 58, 59, 60, 61, 62, 63, 64, 65, 66, 67, 68, 69, 70, 71, 72, 73, 74, 75, 76, 77] (fun g => [(7, int g)]) (fun g => g ≤ ps.length ∧ ∀ b, b < g → b ≠ i → b ≠ (i + 1) % ps.length → 0 < side ps (nth ps b) i) (fun g => ps.length - g) (0) ⟨rfl, trivial⟩ (⟨Nat.zero_le _, fun b hb => absurd hb (Nat.not_lt_zero _)⟩) (fun g F hok => ?_)
              obtain ⟨k, rfl⟩ : ∃ k, k = g := ⟨g, rfl⟩
              obtain ⟨hk, hin⟩ := hok
              refine HW.seq ?_
              refine HW.seq (HW.region [(0, .st), (1, .st), (2, .st)] rfl rfl ?_)
              refine Plan.move (v := .int _ _) rfl rfl rfl ?_
              refine Plan.move (v := .int _ _) rfl rfl rfl ?_
              refine Plan.cmp2 rfl rfl rfl rfl rfl (fun h51 => ?_) (fun h51 => ?_)
              · replace h51 := of_decide_eq_true h51
                have hlt3 : k < ps.length := by omega
                obtain ⟨a3, e3, l3⟩ := hp k hlt3
                obtain rfl : a1 = a3 := by injection e3
                refine Plan.done ?_
                refine HW.cond_true rfl ?_
                refine HW.skip ?_
                refine HW.seq ?_
                refine HW.block ?_
                refine HW.seq (HW.region_any [] [(0, .st), (1, .st), (2, .st), (3, .st), (4, .st), (5, .st), (6, .st), (7, .st), (8, .st), (9, .st), (10, .st), (11, .st), (12, .st), (13, .st), (14, .st), (15, .st), (16, .st), (17, .st), (18, .st), (19, .st), (20, .st), (21, .ef), (22, .st), (23, .st)] mix (by kernel_rfl) (fun _ _ _ _ _ h => h) (zeros rfl) ?_)
                refine Plan.move (v := .int _ _) rfl rfl rfl ?_
                refine Plan.move (v := .int _ _) rfl rfl rfl ?_
                refine Plan.cmp2 rfl rfl rfl rfl rfl (fun h56 => ?_) (fun h56 => ?_)
                · replace h56 := ne_of_t h56
                  refine Plan.move (v := .bool _) rfl rfl rfl ?_
                  refine Plan.move (v := .int _ _) rfl rfl rfl ?_
                  refine Plan.move (v := .int _ _) rfl rfl rfl ?_
                  refine Plan.cmp2 rfl rfl rfl rfl rfl (fun h60 => ?_) (fun h60 => ?_)
                  · replace h60 := ne_of_t h60
                    refine Plan.pick (v := .bool _) rfl rfl rfl rfl ?_
                    refine Plan.move (v := .bool _) rfl rfl rfl ?_
                    refine Plan.move (v := .slice _ _ _) rfl rfl rfl ?_
                    refine Plan.move (v := .int _ _) rfl rfl rfl ?_
                    refine Plan.indexN (i) rfl rfl slV sizV rfl rfl rfl rfl (hlt) ?_
                    refine Plan.loadAgg rfl rfl aggV sizV rfl (Sees.old l1 (by simp)) rfl ?_
                    refine Plan.move (v := .slice _ _ _) rfl rfl rfl ?_
                    refine Plan.move (v := .int _ _) rfl rfl rfl ?_
                    refine Plan.indexN ((i + 1) % ps.length) rfl rfl slV sizV rfl rfl rfl hmod (hlt2) ?_
                    refine Plan.loadAgg rfl rfl aggV sizV rfl (Sees.old l2 (by simp)) rfl ?_
                    refine Plan.move (v := .slice _ _ _) rfl rfl rfl ?_
                    refine Plan.move (v := .int _ _) rfl rfl rfl ?_
                    refine Plan.indexN (k) rfl rfl slV sizV rfl rfl rfl rfl (hlt3) ?_
                    refine Plan.loadAgg rfl rfl aggV sizV rfl (Sees.old l3 (by simp)) rfl ?_
                    refine Plan.callF [] 0 rfl rfl rfl (.inl rfl) (by simp) (fun w hm => Twice_ct _ _ _ w (hbd _ (List.getElem_mem hlt)) (hbd _ (List.getElem_mem hlt2)) (hbd _ (List.getElem_mem hlt3))) ?_   -- tinplate/tinplateref03.Twice
                    rintro v Ln ⟨rfl, rfl⟩
                    have hside : trn ps[i] ps[(i + 1) % ps.length] ps[k] = side ps (nth ps k) i := by unfold side nx; rw [nth_get hlt, nth_get hlt2, nth_get hlt3]
                    rw [hside]
                    refine Plan.cmp2 rfl rfl rfl rfl rfl (fun h76 => ?_) (fun h76 => ?_)
                    · replace h76 := of_decide_eq_true h76
                      refine Plan.pick (v := .bool _) rfl rfl rfl rfl ?_
                      refine Plan.done ?_
                      refine HW.cond_true rfl ?_
                      refine HW.seq (HW.region [(0, .st)] rfl rfl ?_)
                      refine Plan.assign (v := .bool _) rfl rfl rfl ?_
                      refine Plan.done ?_
                      exact HW.ret ⟨rfl, _, [], .tmp rfl .nil, List.nil_sublist _, hF (fun h => by have := h.left i k hlt hlt3 (by omega) (by omega); omega), rfl⟩
                    · replace h76 := of_decide_eq_false h76
                      refine Plan.pick (v := .bool _) rfl rfl rfl rfl ?_
                      refine Plan.done ?_
                      refine HW.cond_false rfl ?_
                      refine HW.skip ?_
                      refine HW.region [(0, .st), (1, .st), (2, .st)] rfl rfl ?_
                      refine Plan.move (v := .int _ _) rfl rfl rfl ?_
                      refine Plan.arithI rfl rfl rfl rfl rfl (by omega) ?_
                      refine Plan.assign (v := .int _ _) rfl rfl rfl ?_
                      refine Plan.done ?_
                      exact ⟨k + 1, by simp only; omega, ⟨hlt3, fun b hb n1 n2 => by rcases Nat.lt_succ_iff_lt_or_eq.1 hb with h | rfl; exact hin b h n1 n2; omega⟩, rfl, Ent.sub (.refl _), (by repeat (first | exact Agree.havoc _ _ _ | refine Agree.updN ?_ | refine Agree.upd rfl ?_ | refine Agree.updL rfl ?_ | refine Agree.havoc2 rfl ?_)), ⟨rfl, trivial⟩⟩
                  · replace h60 := eq_of_f h60
                    refine Plan.pick (v := .bool _) rfl rfl rfl rfl ?_
                    refine Plan.move (v := .bool _) rfl rfl rfl ?_
                    refine Plan.no rfl rfl ?_
                    refine Plan.no rfl rfl ?_
                    refine Plan.no rfl rfl ?_
                    refine Plan.no rfl rfl ?_
                    refine Plan.no rfl rfl ?_
                    refine Plan.no rfl rfl ?_
                    refine Plan.no rfl rfl ?_
                    refine Plan.no rfl rfl ?_
                    refine Plan.no rfl rfl ?_
                    refine Plan.no rfl rfl ?_
                    refine Plan.no rfl rfl ?_
                    refine Plan.no rfl rfl ?_
                    refine Plan.noE rfl rfl ?_
                    refine Plan.no rfl rfl ?_
                    refine Plan.pick (v := .bool _) rfl rfl rfl rfl ?_
                    refine Plan.done ?_
                    refine HW.cond_false rfl ?_
                    refine HW.skip ?_
                    refine HW.region [(0, .st), (1, .st), (2, .st)] rfl rfl ?_
                    refine Plan.move (v := .int _ _) rfl rfl rfl ?_
                    refine Plan.arithI rfl rfl rfl rfl rfl (by omega) ?_
                    refine Plan.assign (v := .int _ _) rfl rfl rfl ?_
                    refine Plan.done ?_
                    exact ⟨k + 1, by simp only; omega, ⟨hlt3, fun b hb n1 n2 => by rcases Nat.lt_succ_iff_lt_or_eq.1 hb with h | rfl; exact hin b h n1 n2; omega⟩, rfl, Ent.sub (.refl _), (by repeat (first | exact Agree.havoc _ _ _ | refine Agree.updN ?_ | refine Agree.upd rfl ?_ | refine Agree.updL rfl ?_ | refine Agree.havoc2 rfl ?_)), ⟨rfl, trivial⟩⟩
                · replace h56 := eq_of_f h56
                  refine Plan.move (v := .bool _) rfl rfl rfl ?_
                  refine Plan.no rfl rfl ?_
                  refine Plan.no rfl rfl ?_
                  refine Plan.no rfl rfl ?_
                  refine Plan.pick (v := .bool _) rfl rfl rfl rfl ?_
                  refine Plan.move (v := .bool _) rfl rfl rfl ?_
                  refine Plan.no rfl rfl ?_
                  refine Plan.no rfl rfl ?_
                  refine Plan.no rfl rfl ?_
                  refine Plan.no rfl rfl ?_
                  refine Plan.no rfl rfl ?_
                  refine Plan.no rfl rfl ?_
                  refine Plan.no rfl rfl ?_
                  refine Plan.no rfl rfl ?_
                  refine Plan.no rfl rfl ?_
                  refine Plan.no rfl rfl ?_
                  refine Plan.no rfl rfl ?_
                  refine Plan.no rfl rfl ?_
                  refine Plan.noE rfl rfl ?_
                  refine Plan.no rfl rfl ?_
                  refine Plan.pick (v := .bool _) rfl rfl rfl rfl ?_
                  refine Plan.done ?_
                  refine HW.cond_false rfl ?_
                  refine HW.skip ?_
                  refine HW.region [(0, .st), (1, .st), (2, .st)] rfl rfl ?_
                  refine Plan.move (v := .int _ _) rfl rfl rfl ?_
                  refine Plan.arithI rfl rfl rfl rfl rfl (by omega) ?_
                  refine Plan.assign (v := .int _ _) rfl rfl rfl ?_
                  refine Plan.done ?_
                  exact ⟨k + 1, by simp only; omega, ⟨hlt3, fun b hb n1 n2 => by rcases Nat.lt_succ_iff_lt_or_eq.1 hb with h | rfl; exact hin b h n1 n2; omega⟩, rfl, Ent.sub (.refl _), (by repeat (first | exact Agree.havoc _ _ _ | refine Agree.updN ?_ | refine Agree.upd rfl ?_ | refine Agree.updL rfl ?_ | refine Agree.havoc2 rfl ?_)), ⟨rfl, trivial⟩⟩
              · replace h51 := of_decide_eq_false h51
                refine Plan.done ?_
                refine HW.cond_false rfl ?_
                refine HW.exit ?_
                refine HW.region [(0, .st), (1, .st), (2, .st)] rfl rfl ?_
                refine Plan.move (v := .int _ _) rfl rfl rfl ?_
                refine Plan.arithI rfl rfl rfl rfl rfl (by omega) ?_
                refine Plan.assign (v := .int _ _) rfl rfl rfl ?_
                refine Plan.done ?_
                exact ⟨i + 1, by simp only; omega, ⟨hlt, fun a a0 ha => by rcases Nat.lt_succ_iff_lt_or_eq.1 ha with h | rfl; exact hlo a a0 h; exact hlow1 a0, fun a b ha hb n1 n2 => by rcases Nat.lt_succ_iff_lt_or_eq.1 ha with h | rfl; exact hle a b h hb n1 n2; exact hin b (by omega) n1 n2⟩, rfl, Ent.sub (.refl _), (by repeat (first | exact Agree.havoc _ _ _ | refine Agree.updN ?_ | refine Agree.upd rfl ?_ | refine Agree.updL rfl ?_ | refine Agree.havoc2 rfl ?_)), ⟨rfl, trivial⟩⟩
            · skip
              refine Plan.not rfl rfl rfl ?_
              refine Plan.pick (v := .bool _) rfl rfl rfl rfl ?_
              refine Plan.done ?_
              refine HW.cond_true rfl ?_
              refine HW.seq (HW.region [(0, .st)] rfl rfl ?_)
              refine Plan.assign (v := .bool _) rfl rfl rfl ?_
              refine Plan.done ?_
              exact HW.ret ⟨rfl, _, [], .tmp rfl .nil, List.nil_sublist _, hF (fun h => by have := h.low i (by omega) hlt; rw [nth_get h0, nth_get hlt] at this; exact absurd this (of_decide_eq_false h42)), rfl⟩
          · replace h33 := of_decide_eq_false h33
            have hlow1 : 0 < i → lt2 (nth ps 0) (nth ps i) := fun h => by omega
            refine Plan.move (v := .bool _) rfl rfl rfl ?_
            refine Plan.no rfl rfl ?_
            refine Plan.no rfl rfl ?_
            refine Plan.no rfl rfl ?_
            refine Plan.no rfl rfl ?_
            refine Plan.no rfl rfl ?_
            refine Plan.no rfl rfl ?_
            refine Plan.no rfl rfl ?_
            refine Plan.noE rfl rfl ?_
            refine Plan.no rfl rfl ?_
            refine Plan.pick (v := .bool _) rfl rfl rfl rfl ?_
            refine Plan.done ?_
            refine HW.cond_false rfl ?_
            refine HW.skip ?_
            refine HW.seq (HW.region [(0, .st), (1, .st), (2, .st), (3, .st), (4, .st)] rfl rfl ?_)
            refine Plan.move (v := .int _ _) rfl rfl rfl ?_
            refine Plan.arithI rfl rfl rfl rfl rfl (by omega) ?_
            refine Plan.move (v := .int _ _) rfl rfl rfl ?_
            refine Plan.rem rfl rfl rfl rfl (by omega) ?_
            refine Plan.assign (v := .int _ _) rfl rfl rfl ?_
            refine Plan.done ?_
            refine HW.seq (HW.region [(0, .st)] rfl rfl ?_)
            refine Plan.assign (v := .int _ _) rfl rfl rfl ?_
            refine Plan.done ?_
            refine HW.block ?_
            refine HW.loopC (G := Nat) [2, 7, 49, 50, 51, 52, 53, 54, 55, 56, 57, 58, 59, 60, 61, 62, 63, 64, 65, 66, 67, 68, 69, 70, 71, 72, 73, 74, 75, 76, 77] (fun g => [(7, int g)]) (fun g => g ≤ ps.length ∧ ∀ b, b < g → b ≠ i → b ≠ (i + 1) % ps.length → 0 < side ps (nth ps b) i) (fun g => ps.length - g) (0) ⟨rfl, trivial⟩ (⟨Nat.zero_le _, fun b hb => absurd hb (Nat.not_lt_zero _)⟩) (fun g F hok => ?_)
            obtain ⟨k, rfl⟩ : ∃ k, k = g := ⟨g, rfl⟩
            obtain ⟨hk, hin⟩ := hok
            refine HW.seq ?_
            refine HW.seq (HW.region [(0, .st), (1, .st), (2, .st)] rfl rfl ?_)
            refine Plan.move (v := .int _ _) rfl rfl rfl ?_
            refine Plan.move (v := .int _ _) rfl rfl rfl ?_
            refine Plan.cmp2 rfl rfl rfl rfl rfl (fun h51 => ?_) (fun h51 => ?_)
            · replace h51 := of_decide_eq_true h51
              have hlt3 : k < ps.length := by omega
              obtain ⟨a3, e3, l3⟩ := hp k hlt3
              obtain rfl : a1 = a3 := by injection e3
              refine Plan.done ?_
              refine HW.cond_true rfl ?_
              refine HW.skip ?_
              refine HW.seq ?_
              refine HW.block ?_
              refine HW.seq (HW.region_any [] [(0, .st), (1, .st), (2, .st), (3, .st), (4, .st), (5, .st), (6, .st), (7, .st), (8, .st), (9, .st), (10, .st), (11, .st), (12, .st), (13, .st), (14, .st), (15, .st), (16, .st), (17, .st), (18, .st), (19, .st), (20, .st), (21, .ef), (22, .st), (23, .st)] mix (by kernel_rfl) (fun _ _ _ _ _ h => h) (zeros rfl) ?_)
              refine Plan.move (v := .int _ _) rfl rfl rfl ?_
              refine Plan.move (v := .int _ _) rfl rfl rfl ?_
              refine Plan.cmp2 rfl rfl rfl rfl rfl (fun h56 => ?_) (fun h56 => ?_)
              · replace h56 := ne_of_t h56
                refine Plan.move (v := .bool _) rfl rfl rfl ?_
                refine Plan.move (v := .int _ _) rfl rfl rfl ?_
                refine Plan.move (v := .int _ _) rfl rfl rfl ?_
                refine Plan.cmp2 rfl rfl rfl rfl rfl (fun h60 => ?_) (fun h60 => ?_)
                · replace h60 := ne_of_t h60
                  refine Plan.pick (v := .bool _) rfl rfl rfl rfl ?_
                  refine Plan.move (v := .bool _) rfl rfl rfl ?_
                  refine Plan.move (v := .slice _ _ _) rfl rfl rfl ?_
                  refine Plan.move (v := .int _ _) rfl rfl rfl ?_
                  refine Plan.indexN (i) rfl rfl slV sizV rfl rfl rfl rfl (hlt) ?_
                  refine Plan.loadAgg rfl rfl aggV sizV rfl (Sees.old l1 (by simp)) rfl ?_
                  refine Plan.move (v := .slice _ _ _) rfl rfl rfl ?_
                  refine Plan.move (v := .int _ _) rfl rfl rfl ?_
                  refine Plan.indexN ((i + 1) % ps.length) rfl rfl slV sizV rfl rfl rfl hmod (hlt2) ?_
                  refine Plan.loadAgg rfl rfl aggV sizV rfl (Sees.old l2 (by simp)) rfl ?_
                  refine Plan.move (v := .slice _ _ _) rfl rfl rfl ?_
                  refine Plan.move (v := .int _ _) rfl rfl rfl ?_
                  refine Plan.indexN (k) rfl rfl slV sizV rfl rfl rfl rfl (hlt3) ?_
                  refine Plan.loadAgg rfl rfl aggV sizV rfl (Sees.old l3 (by simp)) rfl ?_
                  refine Plan.callF [] 0 rfl rfl rfl (.inl rfl) (by simp) (fun w hm => Twice_ct _ _ _ w (hbd _ (List.getElem_mem hlt)) (hbd _ (List.getElem_mem hlt2)) (hbd _ (List.getElem_mem hlt3))) ?_   -- tinplate/tinplateref03.Twice
                  rintro v Ln ⟨rfl, rfl⟩
                  have hside : trn ps[i] ps[(i + 1) % ps.length] ps[k] = side ps (nth ps k) i := by unfold side nx; rw [nth_get hlt, nth_get hlt2, nth_get hlt3]
                  rw [hside]
                  refine Plan.cmp2 rfl rfl rfl rfl rfl (fun h76 => ?_) (fun h76 => ?_)
                  · replace h76 := of_decide_eq_true h76
                    refine Plan.pick (v := .bool _) rfl rfl rfl rfl ?_
                    refine Plan.done ?_
                    refine HW.cond_true rfl ?_
                    refine HW.seq (HW.region [(0, .st)] rfl rfl ?_)
                    refine Plan.assign (v := .bool _) rfl rfl rfl ?_
                    refine Plan.done ?_
                    exact HW.ret ⟨rfl, _, [], .tmp rfl .nil, List.nil_sublist _, hF (fun h => by have := h.left i k hlt hlt3 (by omega) (by omega); omega), rfl⟩
                  · replace h76 := of_decide_eq_false h76
                    refine Plan.pick (v := .bool _) rfl rfl rfl rfl ?_
                    refine Plan.done ?_
                    refine HW.cond_false rfl ?_
                    refine HW.skip ?_
                    refine HW.region [(0, .st), (1, .st), (2, .st)] rfl rfl ?_
                    refine Plan.move (v := .int _ _) rfl rfl rfl ?_
                    refine Plan.arithI rfl rfl rfl rfl rfl (by omega) ?_
                    refine Plan.assign (v := .int _ _) rfl rfl rfl ?_
                    refine Plan.done ?_
                    exact ⟨k + 1, by simp only; omega, ⟨hlt3, fun b hb n1 n2 => by rcases Nat.lt_succ_iff_lt_or_eq.1 hb with h | rfl; exact hin b h n1 n2; omega⟩, rfl, Ent.sub (.refl _), (by repeat (first | exact Agree.havoc _ _ _ | refine Agree.updN ?_ | refine Agree.upd rfl ?_ | refine Agree.updL rfl ?_ | refine Agree.havoc2 rfl ?_)), ⟨rfl, trivial⟩⟩
                · replace h60 := eq_of_f h60
                  refine Plan.pick (v := .bool _) rfl rfl rfl rfl ?_
                  refine Plan.move (v := .bool _) rfl rfl rfl ?_
                  refine Plan.no rfl rfl ?_
                  refine Plan.no rfl rfl ?_
                  refine Plan.no rfl rfl ?_
                  refine Plan.no rfl rfl ?_
                  refine Plan.no rfl rfl ?_
                  refine Plan.no rfl rfl ?_
                  refine Plan.no rfl rfl ?_
                  refine Plan.no rfl rfl ?_
                  refine Plan.no rfl rfl ?_
                  refine Plan.no rfl rfl ?_
                  refine Plan.no rfl rfl ?_
                  refine Plan.no rfl rfl ?_
                  refine Plan.noE rfl rfl ?_
                  refine Plan.no rfl rfl ?_
                  refine Plan.pick (v := .bool _) rfl rfl rfl rfl ?_
                  refine Plan.done ?_
                  refine HW.cond_false rfl ?_
                  refine HW.skip ?_
                  refine HW.region [(0, .st), (1, .st), (2, .st)] rfl rfl ?_
                  refine Plan.move (v := .int _ _) rfl rfl rfl ?_
                  refine Plan.arithI rfl rfl rfl rfl rfl (by omega) ?_
                  refine Plan.assign (v := .int _ _) rfl rfl rfl ?_
                  refine Plan.done ?_
                  exact ⟨k + 1, by simp only; omega, ⟨hlt3, fun b hb n1 n2 => by rcases Nat.lt_succ_iff_lt_or_eq.1 hb with h | rfl; exact hin b h n1 n2; omega⟩, rfl, Ent.sub (.refl _), (by repeat (first | exact Agree.havoc _ _ _ | refine Agree.updN ?_ | refine Agree.upd rfl ?_ | refine Agree.updL rfl ?_ | refine Agree.havoc2 rfl ?_)), ⟨rfl, trivial⟩⟩
              · replace h56 := eq_of_f h56
                refine Plan.move (v := .bool _) rfl rfl rfl ?_
                refine Plan.no rfl rfl ?_
                refine Plan.no rfl rfl ?_
                refine Plan.no rfl rfl ?_
                refine Plan.pick (v := .bool _) rfl rfl rfl rfl ?_
                refine Plan.move (v := .bool _) rfl rfl rfl ?_
                refine Plan.no rfl rfl ?_
                refine Plan.no rfl rfl ?_
                refine Plan.no rfl rfl ?_
                refine Plan.no rfl rfl ?_
                refine Plan.no rfl rfl ?_
                refine Plan.no rfl rfl ?_
                refine Plan.no rfl rfl ?_
                refine Plan.no rfl rfl ?_
                refine Plan.no rfl rfl ?_
                refine Plan.no rfl rfl ?_
                refine Plan.no rfl rfl ?_
                refine Plan.no rfl rfl ?_
                refine Plan.noE rfl rfl ?_
                refine Plan.no rfl rfl ?_
                refine Plan.pick (v := .bool _) rfl rfl rfl rfl ?_
                refine Plan.done ?_
                refine HW.cond_false rfl ?_
                refine HW.skip ?_
                refine HW.region [(0, .st), (1, .st), (2, .st)] rfl rfl ?_
                refine Plan.move (v := .int _ _) rfl rfl rfl ?_
                refine Plan.arithI rfl rfl rfl rfl rfl (by omega) ?_
                refine Plan.assign (v := .int _ _) rfl rfl rfl ?_
                refine Plan.done ?_
                exact ⟨k + 1, by simp only; omega, ⟨hlt3, fun b hb n1 n2 => by rcases Nat.lt_succ_iff_lt_or_eq.1 hb with h | rfl; exact hin b h n1 n2; omega⟩, rfl, Ent.sub (.refl _), (by repeat (first | exact Agree.havoc _ _ _ | refine Agree.updN ?_ | refine Agree.upd rfl ?_ | refine Agree.updL rfl ?_ | refine Agree.havoc2 rfl ?_)), ⟨rfl, trivial⟩⟩
            · replace h51 := of_decide_eq_false h51
              refine Plan.done ?_
              refine HW.cond_false rfl ?_
              refine HW.exit ?_
              refine HW.region [(0, .st), (1, .st), (2, .st)] rfl rfl ?_
              refine Plan.move (v := .int _ _) rfl rfl rfl ?_
              refine Plan.arithI rfl rfl rfl rfl rfl (by omega) ?_
              refine Plan.assign (v := .int _ _) rfl rfl rfl ?_
              refine Plan.done ?_
              exact ⟨i + 1, by simp only; omega, ⟨hlt, fun a a0 ha => by rcases Nat.lt_succ_iff_lt_or_eq.1 ha with h | rfl; exact hlo a a0 h; exact hlow1 a0, fun a b ha hb n1 n2 => by rcases Nat.lt_succ_iff_lt_or_eq.1 ha with h | rfl; exact hle a b h hb n1 n2; exact hin b (by omega) n1 n2⟩, rfl, Ent.sub (.refl _), (by repeat (first | exact Agree.havoc _ _ _ | refine Agree.updN ?_ | refine Agree.upd rfl ?_ | refine Agree.updL rfl ?_ | refine Agree.havoc2 rfl ?_)), ⟨rfl, trivial⟩⟩
        · replace h29 := of_decide_eq_false h29
          refine Plan.done ?_
          refine HW.cond_false rfl ?_
          refine HW.exit ?_
          refine HW.seq (HW.region [(0, .st)] rfl rfl ?_)
          refine Plan.assign (v := .bool _) rfl rfl rfl ?_
          refine Plan.done ?_
          have hv : validF ps = true := (valid_iff ps).2 ⟨by omega, by omega, hok1, fun a a0 ha => hlo a a0 (by omega), fun a b ha hb n1 n2 => hle a b (by omega) hb n1 n2⟩
          exact HW.ret ⟨rfl, _, [], .tmp rfl .nil, List.nil_sublist _, (by rw [hv]; rfl), rfl⟩

end Go.Proofs.Ytjmklbkcpjmcaaa.V
