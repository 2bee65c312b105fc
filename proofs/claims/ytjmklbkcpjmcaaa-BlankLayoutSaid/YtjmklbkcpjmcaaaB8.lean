/-
  Package blank: the cutter, plan.
-/
import Derived.Test.YtjmklbkcpjmcaaaB7
namespace Go.Proofs.Ytjmklbkcpjmcaaa.V
open Go Go.RowKit Go.Proofs.Ytjmklbkcpjmcaaa.H Go.Proofs.Ytjmklbkcpjmcaaa.LL
set_option linter.unusedVariables false
set_option linter.unusedSimpArgs false

theorem bsS3 (A1 A2 A3 : Option Addr) (n1 c1 n2 c2 n3 c3 : Nat) (w : World) : (Instr.buildSlice 127 3 #[(0, .slice A1 n1 c1), (1, .slice A2 n2 c2), (2, .slice A3 n3 c3)]).run P w = .ok (.slice (some ⟨w.heap.size, 0, none⟩) 3 3) (w.alloc (.cells #[.slice A1 n1 c1, .slice A2 n2 c2, .slice A3 n3 c3] 32 (0, 0))) := by kernel_rfl
theorem encS1 (s : CutS) : (encS s).length = 1 := rfl
theorem cutAt_no {f : Nat → Int} {v : Int} {n : Nat} (h : ∀ j, j < n → f j ≠ v) : cutAt f v n = none := by
  unfold cutAt
  rw [List.find?_eq_none]
  intro x hx
  simpa using h x (List.mem_range.1 hx)
theorem Pl_pos {l : List It} {a b : Nat} (ha : 0 < a) (hb : 0 < b) : 0 < (Pl l a b).length := by
  by_cases h0 : W l a b = 0
  · rw [Pl_zero l ha h0]; decide
  · cases hi : itemAt l a b (W l a b) with
    | some i => rw [Pl_item l ha h0 hi]; simp
    | none =>
      cases hx : cutAt (fun x => W l (x + 1) b + W l (a - (x + 1)) b) (W l a b) (a / 2) with
      | some x => rw [Pl_wide l ha hb h0 hi hx]; simp
      | none =>
        cases hy : cutAt (fun y => W l a (y + 1) + W l a (b - (y + 1))) (W l a b) (b / 2) with
        | some y => rw [Pl_high l ha hb h0 hi hx hy]; simp
        | none => exact (Pl_some l ha hb h0 hi hx hy).elim
theorem Pl_le {l : List It} {a b : Nat} (ha : 0 < a) (hb : 0 < b) (ha2 : a ≤ 100) (hb2 : b ≤ 100) : (Pl l a b).length ≤ 20000 := by
  have h1 := Pl_len l (a + b) a b (Nat.le_refl _) ha hb
  have h2 : a * b ≤ 100 * 100 := Nat.mul_le_mul ha2 hb2
  omega

/-- the contract of plan, for rectangles up to a size -/
def PlanAt (l : List It) (A : Option Addr) (c cb m N : Nat) : Prop := ∀ (a b : Nat) (kv : List (Pt × Int)) (w : World), a + b ≤ N → 0 < a → 0 < b → a ≤ 100 → b ≤ 100 → Rd encT 3 w A l →
  w.heap[cb]? = some (.cells #[.slice A l.length c, .map (some m)] 79 (0, 0)) → w.heap[m]? = some (.map (ents vc int 0 kv).toArray kv.length) → Known l kv →
  Ct P 49 #[.pointer (some ⟨cb, 0, none⟩), int a, int b] w [m] (fun r L => ∃ kv' o c', Known l kv' ∧ r = slv o (Pl l a b).length c' ∧ L = [ownC o c' (Pl l a b), Res.mp vc int m kv'])

theorem plan_step (l : List It) (A : Option Addr) (c cb m N : Nat) (hl : l.any badI = false) (hlen : l.length ≤ 10) (hcm : cb ≠ m) (ih : PlanAt l A c cb m N)
    (a b : Nat) (kv : List (Pt × Int)) (w : World) (hN : a + b ≤ N + 1) (ha : 0 < a) (hb : 0 < b) (ha2 : a ≤ 100) (hb2 : b ≤ 100) (hp : Rd encT 3 w A l)
    (hcb : w.heap[cb]? = some (.cells #[.slice A l.length c, .map (some m)] 79 (0, 0))) (hmp : w.heap[m]? = some (.map (ents vc int 0 kv).toArray kv.length)) (hkv : Known l kv) :
    Ct P 49 #[.pointer (some ⟨cb, 0, none⟩), int a, int b] w [m] (fun r L => ∃ kv' o c', Known l kv' ∧ r = slv o (Pl l a b).length c' ∧ L = [ownC o c' (Pl l a b), Res.mp vc int m kv']) := by
  have hW := worth_ct l A c cb m hl hlen hcm
  refine Ct.of_body (rs := [.tmp 6]) (N := 112) (L := [Res.mp vc int m kv]) Try.func49 rfl rfl rfl (by kernel_rfl) rfl (Mem.ownMap hmp) ?_
  refine HW.seq (HW.region [(0, .st)] rfl rfl ?_)
  refine Plan.assign (v := .slice _ _ _) rfl rfl rfl ?_
  refine Plan.done ?_
  refine HW.seq (HW.region [(0, .st), (1, .st), (2, .st), (3, .ef), (4, .st)] rfl rfl ?_)
  refine Plan.move (v := .pointer _) rfl rfl rfl ?_
  refine Plan.move (v := .int _ _) rfl rfl rfl ?_
  refine Plan.move (v := .int _ _) rfl rfl rfl ?_
  refine Plan.callF [m] 1 rfl rfl rfl (.inr hDn) (by simp [Res.mp, Res.obj]) (fun w hm => hW (a + b) a b kv w (Nat.le_refl _) ha hb ha2 hb2 (hp.memMap hm hmp (fun _ => by simp)) ((hm.old cb (Array.getElem?_eq_some_iff.1 hcb).1 (by simpa using hcm)).trans hcb) (hm.res (Res.mp vc int m kv) (by simp)) hkv) ?_   -- (*tinplate/blank.cutter).worth
  rintro v Ln ⟨kv1, hkv1, rfl, rfl⟩
  refine Plan.assign (v := .int _ _) rfl rfl rfl ?_
  refine Plan.done ?_
  refine HW.seq ?_
  refine HW.seq (HW.region [(0, .st), (1, .st)] rfl rfl ?_)
  refine Plan.move (v := .int _ _) rfl rfl rfl ?_
  refine Plan.cmp2 rfl rfl rfl rfl rfl (fun h17 => ?_) (fun h17 => ?_)
  · replace h17 := of_decide_eq_true h17
    have hPl := Pl_zero l ha (h := b) h17
    refine Plan.done ?_
    refine HW.cond_true rfl ?_
    refine HW.seq (HW.region [(0, .st), (1, .ef), (2, .st)] rfl rfl ?_)
    refine Plan.build rfl rfl rfl (bld0Cut) ?_
    refine Plan.buildOwn (xs := [((0 : Int), (0 : Int))]) (enc := enc) (sz := 2) rfl rfl rfl (bsCut1 _ _) rfl rfl (by simp) rfl fun b19 => ?_
    refine Plan.assign (v := .slice _ _ _) rfl rfl rfl ?_
    refine Plan.done ?_
    exact HW.ret ⟨rfl, _, [ownC (some b19) 1 [(0, 0)], Res.mp vc int m kv1], .tmp rfl .nil, .refl _, kv1, some b19, 1, hkv1, by rw [hPl]; rfl, by rw [hPl]⟩
  · replace h17 := of_decide_eq_false h17
    refine Plan.done ?_
    refine HW.cond_false rfl ?_
    refine HW.skip ?_
    refine HW.seq ?_
    refine HW.seq (HW.region [(0, .st), (1, .st), (2, .st), (3, .st), (4, .st), (5, .st)] rfl rfl ?_)
    refine Plan.move (v := .pointer _) rfl rfl rfl ?_
    refine Plan.nilCheck rfl rfl rfl ?_
    refine Plan.fieldAddr rfl rfl fldcutter0 rfl ?_
    refine Plan.load (v := .slice _ _ _) rfl rfl agg_api_Item rfl (Sees.oldOne hcb (by simpa using hcm) rfl) ?_
    refine Plan.len rfl rfl slapiItem rfl ?_
    refine Plan.move (v := .int _ _) rfl rfl rfl ?_
    refine Plan.done ?_
    refine HW.block ?_
    refine HW.loopC (G := Nat) [6, 8, 9, 25, 26, 27, 28, 29, 30, 31, 32, 33, 34, 35, 36, 37, 38, 39, 40, 41, 42, 43] (fun g => [(25, int g)]) (fun g => g ≤ l.length ∧ ∀ j (h : j < l.length), j < g → (fitsI l[j] a b && decide (l[j].2.2 = W l a b)) = false) (fun g => l.length - g) (0) ⟨rfl, trivial⟩ (⟨Nat.zero_le _, fun j h hj => absurd hj (Nat.not_lt_zero _)⟩) (fun g F hok => ?_)
    obtain ⟨hk, hno⟩ := hok
    refine HW.seq (HW.region [(0, .st)] rfl rfl ?_)
    refine Plan.cmp2 rfl rfl rfl rfl rfl (fun h26 => ?_) (fun h26 => ?_)
    · replace h26 := of_decide_eq_true h26
      have hlt : g < l.length := by omega
      obtain ⟨ad, rfl, hl1⟩ := hp g hlt
      have hnm := hl1.notMap (by simp) hmp
      refine Plan.done ?_
      refine HW.seq ?_
      refine HW.cond_true rfl ?_
      refine HW.skip ?_
      refine HW.seq ?_
      refine HW.block ?_
      refine HW.seq (HW.region [(0, .st), (1, .st), (2, .st), (3, .al), (4, .st), (5, .ef)] rfl rfl ?_)
      refine Plan.move (v := .int _ _) rfl rfl rfl ?_
      refine Plan.indexN (g) rfl rfl slapiItem sizapiItem rfl rfl rfl rfl (hlt) ?_
      refine Plan.loadAgg rfl rfl aggItem sizItem rfl (Sees.old hl1 (by simpa using hnm)) rfl ?_
      refine Plan.alloc rfl zerItem fun b9 => ?_
      refine Plan.assign (v := .int _ _) rfl rfl rfl ?_
      refine Plan.storeA 0 rfl rfl hDn sizItem rfl rfl rfl rfl rfl rfl ?_
      refine Plan.done ?_
      refine HW.seq (HW.region [(0, .st), (1, .st), (2, .st), (3, .ef), (4, .st), (5, .st), (6, .st), (7, .st), (8, .st), (9, .st)] rfl rfl ?_)
      refine Plan.loadAll 0 rfl rfl aggItem sizItem rfl rfl rfl ?_
      refine Plan.move (v := .int _ _) rfl rfl rfl ?_
      refine Plan.move (v := .int _ _) rfl rfl rfl ?_
      refine Plan.callF [] 0 rfl rfl rfl (.inl rfl) (by simp) (fun w hm => fits_ct _ a b w) ?_   -- tinplate/blank.fits
      rintro v Ln ⟨rfl, rfl⟩
      refine Plan.splitB (fun h33 => ?_) (fun h33 => ?_)
      · skip
        refine Plan.move (v := .bool _) rfl rfl rfl ?_
        refine Plan.fieldAddr rfl rfl fldItem2 rfl ?_
        refine Plan.load (v := .int _ _) rfl rfl aggI rfl (Sees.one 0 rfl rfl) ?_
        refine Plan.move (v := .int _ _) rfl rfl rfl ?_
        refine Plan.cmp2 rfl rfl rfl rfl rfl (fun h38 => ?_) (fun h38 => ?_)
        · replace h38 := of_decide_eq_true h38
          have hi : itemAt l a b (W l a b) = some g := List.findIdx?_eq_some_iff_getElem.2 ⟨hlt, by rw [h33, decide_eq_true h38]; rfl, fun j hj => by rw [hno j (by omega) hj]; decide⟩
          have hPl := Pl_item l ha h17 hi
          refine Plan.pick (v := .bool _) rfl rfl rfl rfl ?_
          refine Plan.done ?_
          refine HW.cond_true rfl ?_
          refine HW.seq (HW.region [(0, .st), (1, .st), (2, .ef), (3, .st)] rfl rfl ?_)
          refine Plan.move (v := .int _ _) rfl rfl rfl ?_
          refine Plan.build rfl rfl rfl (bldCut _ _) ?_
          refine Plan.buildOwn (xs := [((1 : Int), (g : Int))]) (enc := enc) (sz := 2) rfl rfl rfl (bsCut1 _ _) rfl rfl (by simp) rfl fun b42 => ?_
          refine Plan.assign (v := .slice _ _ _) rfl rfl rfl ?_
          refine Plan.done ?_
          exact HW.ret ⟨rfl, _, [ownC (some b42) 1 [(1, (g : Int))], Res.mp vc int m kv1], .tmp rfl .nil, .cons_cons _ (.cons _ (.refl _)), kv1, some b42, 1, hkv1, by rw [hPl]; rfl, by rw [hPl]⟩
        · replace h38 := of_decide_eq_false h38
          refine Plan.pick (v := .bool _) rfl rfl rfl rfl ?_
          refine Plan.done ?_
          refine HW.cond_false rfl ?_
          refine HW.skip ?_
          refine HW.region [(0, .st), (1, .st)] rfl rfl ?_
          refine Plan.arithI rfl rfl rfl rfl rfl (by omega) ?_
          refine Plan.move (v := .int _ _) rfl rfl rfl ?_
          refine Plan.done ?_
          exact ⟨g + 1, by simp only; omega, ⟨hlt, fun j hj hjk => by rcases Nat.lt_succ_iff_lt_or_eq.1 hjk with h | rfl <;> (first | exact hno j hj h | (rw [decide_eq_false h38, Bool.and_false]))⟩, rfl, Ent.sub (.cons _ (.refl _)), (by repeat (first | exact Agree.havoc _ _ _ | refine Agree.updN ?_ | refine Agree.upd rfl ?_ | refine Agree.updL rfl ?_ | refine Agree.havoc2 rfl ?_)), ⟨rfl, trivial⟩⟩
      · skip
        refine Plan.move (v := .bool _) rfl rfl rfl ?_
        refine Plan.no rfl rfl ?_
        refine Plan.no rfl rfl ?_
        refine Plan.no rfl rfl ?_
        refine Plan.no rfl rfl ?_
        refine Plan.pick (v := .bool _) rfl rfl rfl rfl ?_
        refine Plan.done ?_
        refine HW.cond_false rfl ?_
        refine HW.skip ?_
        refine HW.region [(0, .st), (1, .st)] rfl rfl ?_
        refine Plan.arithI rfl rfl rfl rfl rfl (by omega) ?_
        refine Plan.move (v := .int _ _) rfl rfl rfl ?_
        refine Plan.done ?_
        exact ⟨g + 1, by simp only; omega, ⟨hlt, fun j hj hjk => by rcases Nat.lt_succ_iff_lt_or_eq.1 hjk with h | rfl <;> (first | exact hno j hj h | (rw [h33, Bool.false_and]))⟩, rfl, Ent.sub (.cons _ (.refl _)), (by repeat (first | exact Agree.havoc _ _ _ | refine Agree.updN ?_ | refine Agree.upd rfl ?_ | refine Agree.updL rfl ?_ | refine Agree.havoc2 rfl ?_)), ⟨rfl, trivial⟩⟩
    · replace h26 := of_decide_eq_false h26
      have hin : itemAt l a b (W l a b) = none := List.findIdx?_eq_none_iff.2 fun x hx => by
        obtain ⟨j, hj, rfl⟩ := List.getElem_of_mem hx
        exact hno j hj (by omega)
      refine Plan.done ?_
      refine HW.seq ?_
      refine HW.cond_false rfl ?_
      refine HW.exit ?_
      refine HW.seq ?_
      refine HW.seq (HW.region [(0, .st)] rfl rfl ?_)
      refine Plan.assign (v := .int _ _) rfl rfl rfl ?_
      refine Plan.done ?_
      refine HW.block ?_
      refine HW.loopL (G := WG) [6, 10, 44, 45, 46, 47, 48, 49, 50, 51, 52, 53, 54, 55, 56, 57, 58, 59, 60, 61, 62, 63, 64, 65, 66, 67, 68, 69, 70, 71, 72, 73, 74, 75, 76, 77] (fun g => [(10, int (g.k + 1))]) (fun g => [Res.mp vc int m g.kv]) (fun g => g.k ≤ a / 2 ∧ Known l g.kv ∧ ∀ j, j < g.k → W l (j + 1) b + W l (a - (j + 1)) b ≠ W l a b) (fun g => a / 2 - g.k) (⟨0, kv1⟩) ⟨rfl, trivial⟩ (fun w' hm => hm) (⟨Nat.zero_le _, hkv1, fun j hj => absurd hj (Nat.not_lt_zero _)⟩) (fun g F hok => ?_)
      obtain ⟨k, kv2⟩ := g
      obtain ⟨hk, hkv2, hno2⟩ := hok
      dsimp only at hk hkv2 hno2
      dsimp only
      refine HW.seq ?_
      refine HW.seq (HW.region [(0, .st), (1, .st), (2, .st), (3, .st)] rfl rfl ?_)
      refine Plan.move (v := .int _ _) rfl rfl rfl ?_
      refine Plan.move (v := .int _ _) rfl rfl rfl ?_
      refine Plan.quo rfl rfl rfl rfl (by omega) ?_
      refine Plan.cmp2 rfl rfl rfl rfl rfl (fun h47 => ?_) (fun h47 => ?_)
      · replace h47 := of_decide_eq_true h47
        have hka : k < a / 2 := by omega
        have q1 := W_bds hl (a := k + 1) (b := b) (by omega) hb (by omega) hb2
        have q2 := W_bds hl (a := a - (k + 1)) (b := b) (by omega) hb (by omega) hb2
        have hs : ((a : Int) - ((k : Int) + 1)) = ((a - (k + 1) : Nat) : Int) := by omega
        refine Plan.done ?_
        refine HW.cond_true rfl ?_
        refine HW.skip ?_
        refine HW.seq ?_
        refine HW.block ?_
        refine HW.seq (HW.region [(0, .st), (1, .st), (2, .st), (3, .ef), (4, .st), (5, .st), (6, .st), (7, .st), (8, .st), (9, .ef), (10, .st), (11, .st), (12, .st)] rfl rfl ?_)
        refine Plan.move (v := .pointer _) rfl rfl rfl ?_
        refine Plan.move (v := .int _ _) rfl rfl rfl ?_
        refine Plan.move (v := .int _ _) rfl rfl rfl ?_
        refine Plan.callF [m] 1 rfl rfl rfl (.inr hDn) (by simp [Res.mp, Res.obj]) (fun w hm => hW (a + b) (k + 1) b kv2 w (by omega) (by omega) hb (by omega) hb2 (hp.memMap hm hmp (fun _ => by simp)) ((hm.old cb (Array.getElem?_eq_some_iff.1 hcb).1 (by simpa using hcm)).trans hcb) (hm.res (Res.mp vc int m kv2) (by simp)) hkv2) ?_   -- (*tinplate/blank.cutter).worth
        rintro v Ln ⟨kv3, hkv3, rfl, rfl⟩
        refine Plan.move (v := .pointer _) rfl rfl rfl ?_
        refine Plan.move (v := .int _ _) rfl rfl rfl ?_
        refine Plan.move (v := .int _ _) rfl rfl rfl ?_
        refine Plan.arithI rfl rfl rfl rfl rfl (by omega) ?_
        refine Plan.move (v := .int _ _) rfl rfl rfl ?_
        refine Plan.callF [m] 1 rfl rfl rfl (.inr hDn) (by simp [Res.mp, Res.obj]) (fun w hm => (by rw [hs]; exact hW (a + b) (a - (k + 1)) b kv3 w (by omega) (by omega) hb (by omega) hb2 (hp.memMap hm hmp (fun _ => by simp)) ((hm.old cb (Array.getElem?_eq_some_iff.1 hcb).1 (by simpa using hcm)).trans hcb) (hm.res (Res.mp vc int m kv3) (by simp)) hkv3)) ?_   -- (*tinplate/blank.cutter).worth
        rintro v Ln ⟨kv4, hkv4, rfl, rfl⟩
        refine Plan.arithI rfl rfl rfl rfl rfl (by omega) ?_
        refine Plan.move (v := .int _ _) rfl rfl rfl ?_
        refine Plan.cmp2 rfl rfl rfl rfl rfl (fun h62 => ?_) (fun h62 => ?_)
        · replace h62 := of_decide_eq_true h62
          have hx := cutAt_some (f := fun x => W l (x + 1) b + W l (a - (x + 1)) b) hka h62 hno2
          have hPl := Pl_wide l ha hb h17 hin hx
          have n1 := Pl_le (l := l) (a := k + 1) (b := b) (by omega) hb (by omega) hb2
          have n2 := Pl_le (l := l) (a := a - (k + 1)) (b := b) (by omega) hb (by omega) hb2
          refine Plan.done ?_
          refine HW.cond_true rfl ?_
          refine HW.seq (HW.region [(0, .st), (1, .st), (2, .ef), (3, .st), (4, .st), (5, .st), (6, .ef), (7, .st), (8, .st), (9, .st), (10, .st), (11, .st), (12, .ef), (13, .ef), (14, .ef), (15, .st)] rfl rfl ?_)
          refine Plan.move (v := .int _ _) rfl rfl rfl ?_
          refine Plan.build rfl rfl rfl (bldCut _ _) ?_
          refine Plan.buildOwn (xs := [((2 : Int), ((k + 1 : Nat) : Int))]) (enc := enc) (sz := 2) rfl rfl rfl (bsCut1 _ _) rfl rfl (by simp) rfl fun b65 => ?_
          refine Plan.move (v := .pointer _) rfl rfl rfl ?_
          refine Plan.move (v := .int _ _) rfl rfl rfl ?_
          refine Plan.move (v := .int _ _) rfl rfl rfl ?_
          refine Plan.callJ [m] 1 rfl rfl rfl hDn ⟨_, rfl, by simp [Res.mp, Res.obj]⟩ (fun w hm => ih (k + 1) b kv4 w (by omega) (by omega) hb (by omega) hb2 (hp.memMap hm hmp (fun _ => by simp)) ((hm.old cb (Array.getElem?_eq_some_iff.1 hcb).1 (by simpa using hcm)).trans hcb) (hm.res (Res.mp vc int m kv4) (by simp)) hkv4) ?_   -- (*tinplate/blank.cutter).plan
          rintro v Ln ⟨kv5, o1, d1, hkv5, rfl, rfl⟩
          refine Plan.move (v := .pointer _) rfl rfl rfl ?_
          refine Plan.move (v := .int _ _) rfl rfl rfl ?_
          refine Plan.move (v := .int _ _) rfl rfl rfl ?_
          refine Plan.arithI rfl rfl rfl rfl rfl (by omega) ?_
          refine Plan.move (v := .int _ _) rfl rfl rfl ?_
          refine Plan.callJ [m] 1 rfl rfl rfl hDn ⟨_, rfl, by simp [Res.mp, Res.obj]⟩ (fun w hm => (by rw [hs]; exact ih (a - (k + 1)) b kv5 w (by omega) (by omega) hb (by omega) hb2 (hp.memMap hm hmp (fun _ => by simp)) ((hm.old cb (Array.getElem?_eq_some_iff.1 hcb).1 (by simpa using hcm)).trans hcb) (hm.res (Res.mp vc int m kv5) (by simp)) hkv5)) ?_   -- (*tinplate/blank.cutter).plan
          rintro v Ln ⟨kv6, o2, d2, hkv6, rfl, rfl⟩
          refine Plan.buildOwn (xs := [(⟨some ⟨b65, 0, none⟩, 1, [((2 : Int), ((k + 1 : Nat) : Int))]⟩ : CutS), ⟨at0 o1, d1, Pl l (k + 1) b⟩, ⟨at0 o2, d2, Pl l (a - (k + 1)) b⟩]) (enc := encS) (sz := 1) rfl rfl rfl (bsS3 _ _ _ _ _ _ _ _ _) rfl rfl (by simp) rfl fun b76 => ?_
          refine Plan.callF [] 0 rfl rfl rfl (.inl rfl) (by simp) (fun w hm => concat_ct (at0 (some b76)) 3 3 [(⟨some ⟨b65, 0, none⟩, 1, [((2 : Int), ((k + 1 : Nat) : Int))]⟩ : CutS), ⟨at0 o1, d1, Pl l (k + 1) b⟩, ⟨at0 o2, d2, Pl l (a - (k + 1)) b⟩] w (Res.own_rd encS1 (hm.res _ List.mem_cons_self)) rfl (by
              intro s hs
              simp only [List.mem_cons, List.mem_nil_iff, or_false] at hs
              rcases hs with rfl | rfl | rfl
              · exact Res.own_rd enc2 (hm.res (ownC (some b65) 1 [((2 : Int), ((k + 1 : Nat) : Int))]) (by simp))
              · exact Res.own_rd enc2 (hm.res (ownC o1 d1 (Pl l (k + 1) b)) (by simp))
              · exact Res.own_rd enc2 (hm.res (ownC o2 d2 (Pl l (a - (k + 1)) b)) (by simp))) (by
              intro s hs
              simp only [List.mem_cons, List.mem_nil_iff, or_false] at hs
              rcases hs with rfl | rfl | rfl
              · exact Nat.zero_lt_one
              · exact Pl_pos (by omega) hb
              · exact Pl_pos (by omega) hb) (by simp) (by simp) (by simp [allC]; omega)) ?_   -- slices.Concat[[]tinplate/api.Cut,tinplate/api.Cut]
          rintro v Ln ⟨o3, d3, rfl, rfl⟩
          refine Plan.assign (v := .slice _ _ _) rfl rfl rfl ?_
          refine Plan.done ?_
          exact HW.ret ⟨rfl, _, [ownC o3 d3 (Pl l a b), Res.mp vc int m kv6], .tmp rfl .nil, (by rw [hPl]; simp only [allC, List.flatMap_cons, List.flatMap_nil, List.append_nil]; exact .cons_cons _ (.cons _ (.cons _ (.cons_cons _ (List.nil_sublist _))))), kv6, o3, d3, hkv6, (by rw [hPl]; simp only [allC, List.flatMap_cons, List.flatMap_nil, List.append_nil]; rfl), rfl⟩
        · replace h62 := of_decide_eq_false h62
          refine Plan.done ?_
          refine HW.cond_false rfl ?_
          refine HW.skip ?_
          refine HW.region [(0, .st), (1, .st), (2, .st)] rfl rfl ?_
          refine Plan.move (v := .int _ _) rfl rfl rfl ?_
          refine Plan.arithI rfl rfl rfl rfl rfl (by omega) ?_
          refine Plan.assign (v := .int _ _) rfl rfl rfl ?_
          refine Plan.done ?_
          exact ⟨⟨k + 1, kv4⟩, by dsimp only; omega, ⟨hka, hkv4, fun j hj => by rcases Nat.lt_succ_iff_lt_or_eq.1 hj with h | rfl <;> (first | exact hno2 j h | exact h62)⟩, rfl, Ent.sub (.refl _), (by repeat (first | exact Agree.havoc _ _ _ | refine Agree.updN ?_ | refine Agree.upd rfl ?_ | refine Agree.updL rfl ?_ | refine Agree.havoc2 rfl ?_)), ⟨rfl, trivial⟩⟩
      · replace h47 := of_decide_eq_false h47
        have hxn : cutAt (fun x => W l (x + 1) b + W l (a - (x + 1)) b) (W l a b) (a / 2) = none := cutAt_no fun j hj => hno2 j (by omega)
        refine Plan.done ?_
        refine HW.cond_false rfl ?_
        refine HW.exit ?_
        refine HW.seq ?_
        refine HW.seq (HW.region [(0, .st)] rfl rfl ?_)
        refine Plan.assign (v := .int _ _) rfl rfl rfl ?_
        refine Plan.done ?_
        refine HW.block ?_
        refine HW.loopL (G := WG) [6, 11, 78, 79, 80, 81, 82, 83, 84, 85, 86, 87, 88, 89, 90, 91, 92, 93, 94, 95, 96, 97, 98, 99, 100, 101, 102, 103, 104, 105, 106, 107, 108, 109, 110, 111] (fun g => [(11, int (g.k + 1))]) (fun g => [Res.mp vc int m g.kv]) (fun g => g.k ≤ b / 2 ∧ Known l g.kv ∧ ∀ j, j < g.k → W l a (j + 1) + W l a (b - (j + 1)) ≠ W l a b) (fun g => b / 2 - g.k) (⟨0, kv2⟩) ⟨rfl, trivial⟩ (fun w' hm => hm) (⟨Nat.zero_le _, hkv2, fun j hj => absurd hj (Nat.not_lt_zero _)⟩) (fun g F hok => ?_)
        obtain ⟨k, kv2⟩ := g
        obtain ⟨hk, hkv2, hno3⟩ := hok
        dsimp only at hk hkv2 hno3
        dsimp only
        refine HW.seq ?_
        refine HW.seq (HW.region [(0, .st), (1, .st), (2, .st), (3, .st)] rfl rfl ?_)
        refine Plan.move (v := .int _ _) rfl rfl rfl ?_
        refine Plan.move (v := .int _ _) rfl rfl rfl ?_
        refine Plan.quo rfl rfl rfl rfl (by omega) ?_
        refine Plan.cmp2 rfl rfl rfl rfl rfl (fun h81 => ?_) (fun h81 => ?_)
        · replace h81 := of_decide_eq_true h81
          have hka : k < b / 2 := by omega
          have q1 := W_bds hl (a := a) (b := k + 1) ha (by omega) ha2 (by omega)
          have q2 := W_bds hl (a := a) (b := b - (k + 1)) ha (by omega) ha2 (by omega)
          have hs : ((b : Int) - ((k : Int) + 1)) = ((b - (k + 1) : Nat) : Int) := by omega
          refine Plan.done ?_
          refine HW.cond_true rfl ?_
          refine HW.skip ?_
          refine HW.seq ?_
          refine HW.block ?_
          refine HW.seq (HW.region [(0, .st), (1, .st), (2, .st), (3, .ef), (4, .st), (5, .st), (6, .st), (7, .st), (8, .st), (9, .ef), (10, .st), (11, .st), (12, .st)] rfl rfl ?_)
          refine Plan.move (v := .pointer _) rfl rfl rfl ?_
          refine Plan.move (v := .int _ _) rfl rfl rfl ?_
          refine Plan.move (v := .int _ _) rfl rfl rfl ?_
          refine Plan.callF [m] 1 rfl rfl rfl (.inr hDn) (by simp [Res.mp, Res.obj]) (fun w hm => hW (a + b) a (k + 1) kv2 w (by omega) ha (by omega) ha2 (by omega) (hp.memMap hm hmp (fun _ => by simp)) ((hm.old cb (Array.getElem?_eq_some_iff.1 hcb).1 (by simpa using hcm)).trans hcb) (hm.res (Res.mp vc int m kv2) (by simp)) hkv2) ?_   -- (*tinplate/blank.cutter).worth
          rintro v Ln ⟨kv3, hkv3, rfl, rfl⟩
          refine Plan.move (v := .pointer _) rfl rfl rfl ?_
          refine Plan.move (v := .int _ _) rfl rfl rfl ?_
          refine Plan.move (v := .int _ _) rfl rfl rfl ?_
          refine Plan.move (v := .int _ _) rfl rfl rfl ?_
          refine Plan.arithI rfl rfl rfl rfl rfl (by omega) ?_
          refine Plan.callF [m] 1 rfl rfl rfl (.inr hDn) (by simp [Res.mp, Res.obj]) (fun w hm => (by rw [hs]; exact hW (a + b) a (b - (k + 1)) kv3 w (by omega) ha (by omega) ha2 (by omega) (hp.memMap hm hmp (fun _ => by simp)) ((hm.old cb (Array.getElem?_eq_some_iff.1 hcb).1 (by simpa using hcm)).trans hcb) (hm.res (Res.mp vc int m kv3) (by simp)) hkv3)) ?_   -- (*tinplate/blank.cutter).worth
          rintro v Ln ⟨kv4, hkv4, rfl, rfl⟩
          refine Plan.arithI rfl rfl rfl rfl rfl (by omega) ?_
          refine Plan.move (v := .int _ _) rfl rfl rfl ?_
          refine Plan.cmp2 rfl rfl rfl rfl rfl (fun h96 => ?_) (fun h96 => ?_)
          · replace h96 := of_decide_eq_true h96
            have hx := cutAt_some (f := fun y => W l a (y + 1) + W l a (b - (y + 1))) hka h96 hno3
            have hPl := Pl_high l ha hb h17 hin hxn hx
            have n1 := Pl_le (l := l) (a := a) (b := k + 1) ha (by omega) ha2 (by omega)
            have n2 := Pl_le (l := l) (a := a) (b := b - (k + 1)) ha (by omega) ha2 (by omega)
            refine Plan.done ?_
            refine HW.cond_true rfl ?_
            refine HW.seq (HW.region [(0, .st), (1, .st), (2, .ef), (3, .st), (4, .st), (5, .st), (6, .ef), (7, .st), (8, .st), (9, .st), (10, .st), (11, .st), (12, .ef), (13, .ef), (14, .ef), (15, .st)] rfl rfl ?_)
            refine Plan.move (v := .int _ _) rfl rfl rfl ?_
            refine Plan.build rfl rfl rfl (bldCut _ _) ?_
            refine Plan.buildOwn (xs := [((3 : Int), ((k + 1 : Nat) : Int))]) (enc := enc) (sz := 2) rfl rfl rfl (bsCut1 _ _) rfl rfl (by simp) rfl fun b99 => ?_
            refine Plan.move (v := .pointer _) rfl rfl rfl ?_
            refine Plan.move (v := .int _ _) rfl rfl rfl ?_
            refine Plan.move (v := .int _ _) rfl rfl rfl ?_
            refine Plan.callJ [m] 1 rfl rfl rfl hDn ⟨_, rfl, by simp [Res.mp, Res.obj]⟩ (fun w hm => ih a (k + 1) kv4 w (by omega) ha (by omega) ha2 (by omega) (hp.memMap hm hmp (fun _ => by simp)) ((hm.old cb (Array.getElem?_eq_some_iff.1 hcb).1 (by simpa using hcm)).trans hcb) (hm.res (Res.mp vc int m kv4) (by simp)) hkv4) ?_   -- (*tinplate/blank.cutter).plan
            rintro v Ln ⟨kv5, o1, d1, hkv5, rfl, rfl⟩
            refine Plan.move (v := .pointer _) rfl rfl rfl ?_
            refine Plan.move (v := .int _ _) rfl rfl rfl ?_
            refine Plan.move (v := .int _ _) rfl rfl rfl ?_
            refine Plan.move (v := .int _ _) rfl rfl rfl ?_
            refine Plan.arithI rfl rfl rfl rfl rfl (by omega) ?_
            refine Plan.callJ [m] 1 rfl rfl rfl hDn ⟨_, rfl, by simp [Res.mp, Res.obj]⟩ (fun w hm => (by rw [hs]; exact ih a (b - (k + 1)) kv5 w (by omega) ha (by omega) ha2 (by omega) (hp.memMap hm hmp (fun _ => by simp)) ((hm.old cb (Array.getElem?_eq_some_iff.1 hcb).1 (by simpa using hcm)).trans hcb) (hm.res (Res.mp vc int m kv5) (by simp)) hkv5)) ?_   -- (*tinplate/blank.cutter).plan
            rintro v Ln ⟨kv6, o2, d2, hkv6, rfl, rfl⟩
            refine Plan.buildOwn (xs := [(⟨some ⟨b99, 0, none⟩, 1, [((3 : Int), ((k + 1 : Nat) : Int))]⟩ : CutS), ⟨at0 o1, d1, Pl l a (k + 1)⟩, ⟨at0 o2, d2, Pl l a (b - (k + 1))⟩]) (enc := encS) (sz := 1) rfl rfl rfl (bsS3 _ _ _ _ _ _ _ _ _) rfl rfl (by simp) rfl fun b110 => ?_
            refine Plan.callF [] 0 rfl rfl rfl (.inl rfl) (by simp) (fun w hm => concat_ct (at0 (some b110)) 3 3 [(⟨some ⟨b99, 0, none⟩, 1, [((3 : Int), ((k + 1 : Nat) : Int))]⟩ : CutS), ⟨at0 o1, d1, Pl l a (k + 1)⟩, ⟨at0 o2, d2, Pl l a (b - (k + 1))⟩] w (Res.own_rd encS1 (hm.res _ List.mem_cons_self)) rfl (by
                intro s hs
                simp only [List.mem_cons, List.mem_nil_iff, or_false] at hs
                rcases hs with rfl | rfl | rfl
                · exact Res.own_rd enc2 (hm.res (ownC (some b99) 1 [((3 : Int), ((k + 1 : Nat) : Int))]) (by simp))
                · exact Res.own_rd enc2 (hm.res (ownC o1 d1 (Pl l a (k + 1))) (by simp))
                · exact Res.own_rd enc2 (hm.res (ownC o2 d2 (Pl l a (b - (k + 1)))) (by simp))) (by
                intro s hs
                simp only [List.mem_cons, List.mem_nil_iff, or_false] at hs
                rcases hs with rfl | rfl | rfl
                · exact Nat.zero_lt_one
                · exact Pl_pos ha (by omega)
                · exact Pl_pos ha (by omega)) (by simp) (by simp) (by simp [allC]; omega)) ?_   -- slices.Concat[[]tinplate/api.Cut,tinplate/api.Cut]
            rintro v Ln ⟨o3, d3, rfl, rfl⟩
            refine Plan.assign (v := .slice _ _ _) rfl rfl rfl ?_
            refine Plan.done ?_
            exact HW.ret ⟨rfl, _, [ownC o3 d3 (Pl l a b), Res.mp vc int m kv6], .tmp rfl .nil, (by rw [hPl]; simp only [allC, List.flatMap_cons, List.flatMap_nil, List.append_nil]; exact .cons_cons _ (.cons _ (.cons _ (.cons_cons _ (List.nil_sublist _))))), kv6, o3, d3, hkv6, (by rw [hPl]; simp only [allC, List.flatMap_cons, List.flatMap_nil, List.append_nil]; rfl), rfl⟩
          · replace h96 := of_decide_eq_false h96
            refine Plan.done ?_
            refine HW.cond_false rfl ?_
            refine HW.skip ?_
            refine HW.region [(0, .st), (1, .st), (2, .st)] rfl rfl ?_
            refine Plan.move (v := .int _ _) rfl rfl rfl ?_
            refine Plan.arithI rfl rfl rfl rfl rfl (by omega) ?_
            refine Plan.assign (v := .int _ _) rfl rfl rfl ?_
            refine Plan.done ?_
            exact ⟨⟨k + 1, kv4⟩, by dsimp only; omega, ⟨hka, hkv4, fun j hj => by rcases Nat.lt_succ_iff_lt_or_eq.1 hj with h | rfl <;> (first | exact hno3 j h | exact h96)⟩, rfl, Ent.sub (.refl _), (by repeat (first | exact Agree.havoc _ _ _ | refine Agree.updN ?_ | refine Agree.upd rfl ?_ | refine Agree.updL rfl ?_ | refine Agree.havoc2 rfl ?_)), ⟨rfl, trivial⟩⟩
        · replace h81 := of_decide_eq_false h81
          exact (Pl_some l ha hb h17 hin hxn (cutAt_no fun j hj => hno3 j (by omega))).elim

theorem plan_ct (l : List It) (A : Option Addr) (c cb m : Nat) (hl : l.any badI = false) (hlen : l.length ≤ 10) (hcm : cb ≠ m) : ∀ N, PlanAt l A c cb m N
  | 0 => fun a b kv w h ha => by omega
  | N + 1 => plan_step l A c cb m N hl hlen hcm (plan_ct l A c cb m hl hlen hcm N)

end Go.Proofs.Ytjmklbkcpjmcaaa.V
