/-
  Package tinplateref04: plan, Best; BlankCuts, its contract.
-/
import Derived.Test.YtjmklbkcpjmcaaaBp
import Derived.Test.YtjmklbkcpjmcaaaBa
namespace Go.Proofs.Ytjmklbkcpjmcaaa.V
open Go Go.RowKit Go.Proofs.Ytjmklbkcpjmcaaa.H Go.Proofs.Ytjmklbkcpjmcaaa.LL
set_option linter.unusedVariables false
set_option linter.unusedSimpArgs false

theorem bldCutK (a : Int) (w : World) : (Instr.build 69 #[(0, int a)]).run P w = .ok (vec a 0) w := by kernel_rfl
theorem bsT0 (w : World) : (Instr.buildSlice 30 0 #[]).run P w = .ok (.slice (some ⟨w.heap.size, 0, none⟩) 0 0) (w.alloc (.cells #[] 37 (0, 0))) := by kernel_rfl
theorem infapiItem : ∃ ti, P.info? 37 = some ti ∧ (ti.zero, ti.size, ti.bytes) = (some (itv 0 0 0), 3, 24) := by
  have e : (P.info? 37).map (fun ti => (ti.zero, ti.size, ti.bytes)) = some (some (itv 0 0 0), 3, 24) := by kernel_rfl
  obtain ⟨ti, h1, h2⟩ := Option.map_eq_some_iff.1 e
  exact ⟨ti, h1, h2⟩
abbrev ownT (o : Option Nat) (c : Nat) (xs : List It) : Res := Res.own encT 3 37 o c xs

/-- a table that may be read -/
def TabRd (w : World) (tb : Nat) (l : List It) (a b : Nat) : Prop := ∀ x, x ≤ a → ∃ rb, Lies w ((⟨tb, 0, none⟩ : Addr).add (x * 1)) [.slice (some ⟨rb, 0, none⟩) (b + 1) (b + 1)] ∧ ∀ y, y ≤ b → Lies w ((⟨rb, 0, none⟩ : Addr).add (y * 1)) [int (Vt l x y)]
theorem TabRd.mem {w0 w : World} {tb : Nat} {l : List It} {a b : Nat} {L : List Res} (h : TabRd w0 tb l a b) (hm : Mem w0 [] L w) : TabRd w tb l a b := fun x hx =>
  let ⟨rb, h1, h2⟩ := h x hx; ⟨rb, h1.mem hm, fun y hy => (h2 y hy).mem hm⟩
theorem tab_rd {w : World} {tb : Nat} {l : List It} {a b : Nat} {rows : List (Nat × List Int)} (h : ∀ r ∈ tabL tb (a + 1) (b + 1) rows, r.holds w) (hl : rows.length = a + 1) (hr : ∀ j (hj : j < rows.length), rows[j].2 = cur l (b + 1) j (b + 1)) : TabRd w tb l a b := fun x hx => by
  have hxl : x < rows.length := by omega
  have h1 : x < (hdrs (b + 1) (a + 1) rows).length := by rw [hdrs_len (by omega)]; omega
  refine ⟨rows[x].1, ?_, fun y hy => ?_⟩
  · have := Res.own_elem encH1 (h (outR tb (a + 1) (hdrs (b + 1) (a + 1) rows)) (by simp [tabL])) tb rfl x h1
    rw [hdrs_get hxl h1] at this
    exact this
  · have hy2 : y < (rows[x].2).length := by rw [hr x hxl, cur_len]; omega
    have := Res.own_elem encI1 (h (rowR (b + 1) rows[x]) (List.mem_cons_of_mem _ (List.mem_map.2 ⟨rows[x], List.getElem_mem hxl, rfl⟩))) _ rfl y hy2
    have hv : (rows[x].2)[y] = Vt l x y := by
      have e1 : (rows[x].2)[y]? = some (Vt l x y) := by rw [hr x hxl, cur_get (by omega), if_pos (by omega)]
      rw [List.getElem?_eq_getElem hy2] at e1
      exact Option.some.inj e1
    rw [hv] at this
    exact this

def PlanRAt (l : List It) (A : Option Addr) (c tb a0 b0 N : Nat) : Prop := ∀ (a b : Nat) (w : World), a + b ≤ N → 0 < a → 0 < b → a ≤ a0 → b ≤ b0 → Rd encT 3 w A l → TabRd w tb l a0 b0 →
  Ct P 51 #[slv (some tb) (a0 + 1) (a0 + 1), int a, int b, .slice A l.length c] w [] (fun r L => ∃ o c', r = slv o (Pl l a b).length c' ∧ L = [ownC o c' (Pl l a b)])

set_option maxRecDepth 100000 in
set_option maxHeartbeats 1000000 in
theorem planR_step (l : List It) (A : Option Addr) (c tb a0 b0 N : Nat) (hl : l.any badI = false) (hlen : l.length ≤ 10) (ha100 : a0 ≤ 100) (hb100 : b0 ≤ 100) (ih : PlanRAt l A c tb a0 b0 N) : PlanRAt l A c tb a0 b0 (N + 1) := by
  intro a b w hN ha hb ha0 hb0 hp hT
  obtain ⟨ra, sa, va⟩ := hT a ha0
  have hrow : ∀ y, 0 < y → y ≤ b0 → Lies w ((⟨ra, 0, none⟩ : Addr).add (y * 1)) [int (W l a y)] := fun y h0 h1 => by
    have := va y h1
    rw [Vt_pos ha h0] at this
    exact this
  have hcol : ∀ x, 0 < x → x ≤ a0 → ∃ rb, Lies w ((⟨tb, 0, none⟩ : Addr).add (x * 1)) [.slice (some ⟨rb, 0, none⟩) (b0 + 1) (b0 + 1)] ∧ Lies w ((⟨rb, 0, none⟩ : Addr).add (b * 1)) [int (W l x b)] := fun x h0 h1 => by
    obtain ⟨rb, s, v⟩ := hT x h1
    refine ⟨rb, s, ?_⟩
    have := v b hb0
    rw [Vt_pos h0 hb] at this
    exact this
  refine Ct.of_body (rs := [.tmp 8]) (N := 148) (L := []) Try.func51 rfl rfl rfl (by kernel_rfl) rfl (Mem.refl w) ?_
  refine HW.seq (HW.region [(0, .st)] rfl rfl ?_)
  refine Plan.assign (v := .slice _ _ _) rfl rfl rfl ?_
  refine Plan.done ?_
  refine HW.seq (HW.region [(0, .st), (1, .st), (2, .st), (3, .st), (4, .st), (5, .st), (6, .st), (7, .st)] rfl rfl ?_)
  refine Plan.move (v := .slice _ _ _) rfl rfl rfl ?_
  refine Plan.move (v := .int _ _) rfl rfl rfl ?_
  refine Plan.indexN (a) rfl rfl slSsint sizSsint rfl rfl rfl rfl ((by omega)) ?_
  refine Plan.load (v := .slice _ _ _) rfl rfl agg_int rfl (Sees.old sa (by simp)) ?_
  refine Plan.move (v := .int _ _) rfl rfl rfl ?_
  refine Plan.indexN (b) rfl rfl slI sizI rfl rfl rfl rfl ((by omega)) ?_
  refine Plan.load (v := .int _ _) rfl rfl aggI rfl (Sees.old (hrow b hb hb0) (by simp)) ?_
  refine Plan.assign (v := .int _ _) rfl rfl rfl ?_
  refine Plan.done ?_
  refine HW.seq ?_
  refine HW.seq (HW.region [(0, .st), (1, .st)] rfl rfl ?_)
  refine Plan.move (v := .int _ _) rfl rfl rfl ?_
  refine Plan.cmp2 rfl rfl rfl rfl rfl (fun h23 => ?_) (fun h23 => ?_)
  · replace h23 := of_decide_eq_true h23
    have hPl := Pl_zero l ha (h := b) h23
    refine Plan.done ?_
    refine HW.cond_true rfl ?_
    refine HW.seq (HW.region [(0, .st), (1, .ef), (2, .st)] rfl rfl ?_)
    refine Plan.build rfl rfl rfl (bldCutK _) ?_
    refine Plan.buildOwn (xs := [((0 : Int), (0 : Int))]) (enc := enc) (sz := 2) rfl rfl rfl (bsCut1 _ _) rfl rfl (by simp) rfl fun b25 => ?_
    refine Plan.assign (v := .slice _ _ _) rfl rfl rfl ?_
    refine Plan.done ?_
    exact HW.ret ⟨rfl, _, [ownC (some b25) 1 [(0, 0)]], .tmp rfl .nil, .refl _, some b25, 1, by rw [hPl]; rfl, by rw [hPl]⟩
  · replace h23 := of_decide_eq_false h23
    refine Plan.done ?_
    refine HW.cond_false rfl ?_
    refine HW.skip ?_
    refine HW.seq ?_
    refine HW.seq (HW.region [(0, .st)] rfl rfl ?_)
    refine Plan.assign (v := .int _ _) rfl rfl rfl ?_
    refine Plan.done ?_
    refine HW.block ?_
    refine HW.loopC (G := Nat) [8, 10, 26, 27, 28, 29, 30, 31, 32, 33, 34, 35, 36, 37, 38, 39, 40, 41, 42, 43, 44, 45, 46, 47, 48, 49, 50, 51, 52, 53, 54, 55, 56, 57, 58, 59] (fun g => [(10, int g)]) (fun g => g ≤ l.length ∧ ∀ j (h : j < l.length), j < g → (fitsI l[j] a b && decide (l[j].2.2 = W l a b)) = false) (fun g => l.length - g) (0) ⟨rfl, trivial⟩ (⟨Nat.zero_le _, fun j h hj => absurd hj (Nat.not_lt_zero _)⟩) (fun g F hok => ?_)
    obtain ⟨hk, hno⟩ := hok
    refine HW.seq ?_
    refine HW.seq (HW.region [(0, .st), (1, .st), (2, .st), (3, .st)] rfl rfl ?_)
    refine Plan.move (v := .int _ _) rfl rfl rfl ?_
    refine Plan.move (v := .slice _ _ _) rfl rfl rfl ?_
    refine Plan.len rfl rfl slapiItem rfl ?_
    refine Plan.cmp2 rfl rfl rfl rfl rfl (fun h29 => ?_) (fun h29 => ?_)
    · replace h29 := of_decide_eq_true h29
      have hlt : g < l.length := by omega
      obtain ⟨ad, rfl, hl1⟩ := hp g hlt
      refine Plan.done ?_
      refine HW.cond_true rfl ?_
      refine HW.skip ?_
      refine HW.seq ?_
      refine HW.block ?_
      refine HW.seq (HW.region [(0, .st), (1, .st), (2, .st), (3, .st), (4, .st), (5, .st), (6, .st), (7, .st), (8, .st), (9, .st), (10, .st), (11, .st), (12, .st), (13, .st), (14, .st), (15, .st), (16, .st), (17, .st), (18, .st), (19, .st), (20, .st), (21, .st), (22, .st), (23, .st), (24, .st)] rfl rfl ?_)
      refine Plan.move (v := .slice _ _ _) rfl rfl rfl ?_
      refine Plan.move (v := .int _ _) rfl rfl rfl ?_
      refine Plan.indexN (g) rfl rfl slapiItem sizapiItem rfl rfl rfl rfl (hlt) ?_
      refine Plan.fieldAddr rfl rfl fldItem0 rfl ?_
      refine Plan.load (v := .int _ _) rfl rfl aggI rfl (Sees.nth (Sees.old hl1 (by simp)) 0 rfl) ?_
      refine Plan.move (v := .int _ _) rfl rfl rfl ?_
      refine Plan.cmp2 rfl rfl rfl rfl rfl (fun h38 => ?_) (fun h38 => ?_)
      · replace h38 := of_decide_eq_true h38
        refine Plan.move (v := .bool _) rfl rfl rfl ?_
        refine Plan.move (v := .slice _ _ _) rfl rfl rfl ?_
        refine Plan.move (v := .int _ _) rfl rfl rfl ?_
        refine Plan.indexN (g) rfl rfl slapiItem sizapiItem rfl rfl rfl rfl (hlt) ?_
        refine Plan.fieldAddr rfl rfl fldItem1 rfl ?_
        refine Plan.load (v := .int _ _) rfl rfl aggI rfl (Sees.nth (Sees.old hl1 (by simp)) 1 rfl) ?_
        refine Plan.move (v := .int _ _) rfl rfl rfl ?_
        refine Plan.cmp2 rfl rfl rfl rfl rfl (fun h46 => ?_) (fun h46 => ?_)
        · replace h46 := of_decide_eq_true h46
          refine Plan.pick (v := .bool _) rfl rfl rfl rfl ?_
          refine Plan.move (v := .bool _) rfl rfl rfl ?_
          refine Plan.move (v := .slice _ _ _) rfl rfl rfl ?_
          refine Plan.move (v := .int _ _) rfl rfl rfl ?_
          refine Plan.indexN (g) rfl rfl slapiItem sizapiItem rfl rfl rfl rfl (hlt) ?_
          refine Plan.fieldAddr rfl rfl fldItem2 rfl ?_
          refine Plan.load (v := .int _ _) rfl rfl aggI rfl (Sees.nth (Sees.old hl1 (by simp)) 2 rfl) ?_
          refine Plan.move (v := .int _ _) rfl rfl rfl ?_
          refine Plan.cmp2 rfl rfl rfl rfl rfl (fun h55 => ?_) (fun h55 => ?_)
          · replace h55 := of_decide_eq_true h55
            have hi : itemAt l a b (W l a b) = some g := List.findIdx?_eq_some_iff_getElem.2 ⟨hlt, by rw [fitsI, decide_eq_true h38, decide_eq_true h46, decide_eq_true h55]; rfl, fun j hj => by rw [hno j (by omega) hj]; decide⟩
            have hPl := Pl_item l ha h23 hi
            refine Plan.pick (v := .bool _) rfl rfl rfl rfl ?_
            refine Plan.done ?_
            refine HW.cond_true rfl ?_
            refine HW.seq (HW.region [(0, .st), (1, .st), (2, .ef), (3, .st)] rfl rfl ?_)
            refine Plan.move (v := .int _ _) rfl rfl rfl ?_
            refine Plan.build rfl rfl rfl (bldCut _ _) ?_
            refine Plan.buildOwn (xs := [((1 : Int), (g : Int))]) (enc := enc) (sz := 2) rfl rfl rfl (bsCut1 _ _) rfl rfl (by simp) rfl fun b59 => ?_
            refine Plan.assign (v := .slice _ _ _) rfl rfl rfl ?_
            refine Plan.done ?_
            exact HW.ret ⟨rfl, _, [ownC (some b59) 1 [(1, (g : Int))]], .tmp rfl .nil, .refl _, some b59, 1, by rw [hPl]; rfl, by rw [hPl]⟩
          · replace h55 := of_decide_eq_false h55
            refine Plan.pick (v := .bool _) rfl rfl rfl rfl ?_
            refine Plan.done ?_
            refine HW.cond_false rfl ?_
            refine HW.skip ?_
            refine HW.region [(0, .st), (1, .st), (2, .st)] rfl rfl ?_
            refine Plan.move (v := .int _ _) rfl rfl rfl ?_
            refine Plan.arithI rfl rfl rfl rfl rfl (by omega) ?_
            refine Plan.assign (v := .int _ _) rfl rfl rfl ?_
            refine Plan.done ?_
            exact ⟨g + 1, by simp only; omega, ⟨hlt, fun j hj hjk => by rcases Nat.lt_succ_iff_lt_or_eq.1 hjk with h | rfl <;> (first | exact hno j hj h | (rw [decide_eq_false h55, Bool.and_false]))⟩, rfl, Ent.sub (.refl _), (by repeat (first | exact Agree.havoc _ _ _ | refine Agree.updN ?_ | refine Agree.upd rfl ?_ | refine Agree.updL rfl ?_ | refine Agree.havoc2 rfl ?_)), ⟨rfl, trivial⟩⟩
        · replace h46 := of_decide_eq_false h46
          refine Plan.pick (v := .bool _) rfl rfl rfl rfl ?_
          refine Plan.move (v := .bool _) rfl rfl rfl ?_
          refine Plan.no rfl rfl ?_
          refine Plan.no rfl rfl ?_
          refine Plan.no rfl rfl ?_
          refine Plan.no rfl rfl ?_
          refine Plan.no rfl rfl ?_
          refine Plan.no rfl rfl ?_
          refine Plan.no rfl rfl ?_
          refine Plan.pick (v := .bool _) rfl rfl rfl rfl ?_
          refine Plan.done ?_
          refine HW.cond_false rfl ?_
          refine HW.skip ?_
          refine HW.region [(0, .st), (1, .st), (2, .st)] rfl rfl ?_
          refine Plan.move (v := .int _ _) rfl rfl rfl ?_
          refine Plan.arithI rfl rfl rfl rfl rfl (by omega) ?_
          refine Plan.assign (v := .int _ _) rfl rfl rfl ?_
          refine Plan.done ?_
          exact ⟨g + 1, by simp only; omega, ⟨hlt, fun j hj hjk => by rcases Nat.lt_succ_iff_lt_or_eq.1 hjk with h | rfl <;> (first | exact hno j hj h | (rw [fitsI, decide_eq_false h46, Bool.and_false, Bool.false_and]))⟩, rfl, Ent.sub (.refl _), (by repeat (first | exact Agree.havoc _ _ _ | refine Agree.updN ?_ | refine Agree.upd rfl ?_ | refine Agree.updL rfl ?_ | refine Agree.havoc2 rfl ?_)), ⟨rfl, trivial⟩⟩
      · replace h38 := of_decide_eq_false h38
        refine Plan.move (v := .bool _) rfl rfl rfl ?_
        refine Plan.no rfl rfl ?_
        refine Plan.no rfl rfl ?_
        refine Plan.no rfl rfl ?_
        refine Plan.no rfl rfl ?_
        refine Plan.no rfl rfl ?_
        refine Plan.no rfl rfl ?_
        refine Plan.no rfl rfl ?_
        refine Plan.pick (v := .bool _) rfl rfl rfl rfl ?_
        refine Plan.move (v := .bool _) rfl rfl rfl ?_
        refine Plan.no rfl rfl ?_
        refine Plan.no rfl rfl ?_
        refine Plan.no rfl rfl ?_
        refine Plan.no rfl rfl ?_
        refine Plan.no rfl rfl ?_
        refine Plan.no rfl rfl ?_
        refine Plan.no rfl rfl ?_
        refine Plan.pick (v := .bool _) rfl rfl rfl rfl ?_
        refine Plan.done ?_
        refine HW.cond_false rfl ?_
        refine HW.skip ?_
        refine HW.region [(0, .st), (1, .st), (2, .st)] rfl rfl ?_
        refine Plan.move (v := .int _ _) rfl rfl rfl ?_
        refine Plan.arithI rfl rfl rfl rfl rfl (by omega) ?_
        refine Plan.assign (v := .int _ _) rfl rfl rfl ?_
        refine Plan.done ?_
        exact ⟨g + 1, by simp only; omega, ⟨hlt, fun j hj hjk => by rcases Nat.lt_succ_iff_lt_or_eq.1 hjk with h | rfl <;> (first | exact hno j hj h | (rw [fitsI, decide_eq_false h38, Bool.false_and, Bool.false_and]))⟩, rfl, Ent.sub (.refl _), (by repeat (first | exact Agree.havoc _ _ _ | refine Agree.updN ?_ | refine Agree.upd rfl ?_ | refine Agree.updL rfl ?_ | refine Agree.havoc2 rfl ?_)), ⟨rfl, trivial⟩⟩
    · replace h29 := of_decide_eq_false h29
      have hin : itemAt l a b (W l a b) = none := List.findIdx?_eq_none_iff.2 fun x hx => by
        obtain ⟨j, hj, rfl⟩ := List.getElem_of_mem hx
        exact hno j hj (by omega)
      refine Plan.done ?_
      refine HW.cond_false rfl ?_
      refine HW.exit ?_
      refine HW.seq ?_
      refine HW.seq (HW.region [(0, .st)] rfl rfl ?_)
      refine Plan.assign (v := .int _ _) rfl rfl rfl ?_
      refine Plan.done ?_
      refine HW.block ?_
      refine HW.loopC (G := OfJ) [8, 11, 12, 60, 61, 62, 63, 64, 65, 66, 67, 68, 69, 70, 71, 72, 73, 74, 75, 76, 77, 78, 79, 80, 81, 82, 83, 84, 85, 86, 87, 88, 89, 90, 91, 92, 93, 94, 95, 96, 97, 98, 99, 100, 101, 102, 103] (fun g => [(11, int (g.n + 1))]) (fun g => g.n ≤ a / 2 ∧ ∀ j, j < g.n → W l (j + 1) b + W l (a - (j + 1)) b ≠ W l a b) (fun g => a / 2 - g.n) (⟨0⟩) ⟨rfl, trivial⟩ (⟨Nat.zero_le _, fun j hj => absurd hj (Nat.not_lt_zero _)⟩) (fun g F hok => ?_)
      obtain ⟨k⟩ := g
      obtain ⟨hk, hno2⟩ := hok
      dsimp only at hk hno2
      dsimp only
      refine HW.seq ?_
      refine HW.seq (HW.region [(0, .st), (1, .st), (2, .st), (3, .st)] rfl rfl ?_)
      refine Plan.move (v := .int _ _) rfl rfl rfl ?_
      refine Plan.move (v := .int _ _) rfl rfl rfl ?_
      refine Plan.quo rfl rfl rfl rfl (by omega) ?_
      refine Plan.cmp2 rfl rfl rfl rfl rfl (fun h63 => ?_) (fun h63 => ?_)
      · replace h63 := of_decide_eq_true h63
        have hka : k < a / 2 := by omega
        have q1 := W_bds hl (a := k + 1) (b := b) (by omega) hb (by omega) (by omega)
        have q2 := W_bds hl (a := a - (k + 1)) (b := b) (by omega) hb (by omega) (by omega)
        have hs : ((a : Int) - ((k : Int) + 1)) = ((a - (k + 1) : Nat) : Int) := by omega
        obtain ⟨r1, s1, v1⟩ := hcol (k + 1) (by omega) (by omega)
        obtain ⟨r2, s2, v2⟩ := hcol (a - (k + 1)) (by omega) (by omega)
        refine Plan.done ?_
        refine HW.cond_true rfl ?_
        refine HW.skip ?_
        refine HW.seq ?_
        refine HW.block ?_
        refine HW.seq (HW.region_any [] [(0, .st), (1, .st), (2, .st), (3, .st), (4, .st), (5, .st), (6, .st), (7, .st), (8, .st), (9, .st), (10, .st), (11, .st), (12, .st), (13, .st), (14, .st), (15, .st), (16, .st), (17, .st), (18, .st)] mix (by kernel_rfl) (fun _ _ _ _ _ h => h) (zeros rfl) ?_)
        refine Plan.move (v := .slice _ _ _) rfl rfl rfl ?_
        refine Plan.move (v := .int _ _) rfl rfl rfl ?_
        refine Plan.indexN ((k + 1)) rfl rfl slSsint sizSsint rfl rfl rfl rfl ((by omega)) ?_
        refine Plan.load (v := .slice _ _ _) rfl rfl agg_int rfl (Sees.old s1 (by simp)) ?_
        refine Plan.move (v := .int _ _) rfl rfl rfl ?_
        refine Plan.indexN (b) rfl rfl slI sizI rfl rfl rfl rfl ((by omega)) ?_
        refine Plan.load (v := .int _ _) rfl rfl aggI rfl (Sees.old v1 (by simp)) ?_
        refine Plan.move (v := .slice _ _ _) rfl rfl rfl ?_
        refine Plan.move (v := .int _ _) rfl rfl rfl ?_
        refine Plan.move (v := .int _ _) rfl rfl rfl ?_
        refine Plan.arithI rfl rfl rfl rfl rfl (by omega) ?_
        refine Plan.indexN ((a - (k + 1))) rfl rfl slSsint sizSsint rfl rfl rfl hs ((by omega)) ?_
        refine Plan.load (v := .slice _ _ _) rfl rfl agg_int rfl (Sees.old s2 (by simp)) ?_
        refine Plan.move (v := .int _ _) rfl rfl rfl ?_
        refine Plan.indexN (b) rfl rfl slI sizI rfl rfl rfl rfl ((by omega)) ?_
        refine Plan.load (v := .int _ _) rfl rfl aggI rfl (Sees.old v2 (by simp)) ?_
        refine Plan.arithI rfl rfl rfl rfl rfl (by omega) ?_
        refine Plan.move (v := .int _ _) rfl rfl rfl ?_
        refine Plan.cmp2 rfl rfl rfl rfl rfl (fun h84 => ?_) (fun h84 => ?_)
        · replace h84 := of_decide_eq_true h84
          have hx := cutAt_some (f := fun x => W l (x + 1) b + W l (a - (x + 1)) b) hka h84 hno2
          have hPl := Pl_wide l ha hb h23 hin hx
          have n1 := Pl_le (l := l) (a := k + 1) (b := b) (by omega) hb (by omega) (by omega)
          have n2 := Pl_le (l := l) (a := a - (k + 1)) (b := b) (by omega) hb (by omega) (by omega)
          refine Plan.done ?_
          refine HW.cond_true rfl ?_
          refine HW.seq (HW.region [(0, .st), (1, .st), (2, .ef), (3, .st)] rfl rfl ?_)
          refine Plan.move (v := .int _ _) rfl rfl rfl ?_
          refine Plan.build rfl rfl rfl (bldCut _ _) ?_
          refine Plan.buildOwn (xs := [((2 : Int), ((k + 1 : Nat) : Int))]) (enc := enc) (sz := 2) rfl rfl rfl (bsCut1 _ _) rfl rfl (by simp) rfl fun b87 => ?_
          refine Plan.assign (v := .slice _ _ _) rfl rfl rfl ?_
          refine Plan.done ?_
          refine HW.seq (HW.region [(0, .st), (1, .st), (2, .st), (3, .st), (4, .st), (5, .ef), (6, .ef), (7, .st)] rfl rfl ?_)
          refine Plan.move (v := .slice _ _ _) rfl rfl rfl ?_
          refine Plan.move (v := .slice _ _ _) rfl rfl rfl ?_
          refine Plan.move (v := .int _ _) rfl rfl rfl ?_
          refine Plan.move (v := .int _ _) rfl rfl rfl ?_
          refine Plan.move (v := .slice _ _ _) rfl rfl rfl ?_
          refine Plan.callF [] 0 rfl rfl rfl (.inl rfl) (by simp) (fun w hm => ih (k + 1) b w (by omega) (by omega) hb (by omega) hb0 (hp.mem hm) (hT.mem hm)) ?_   -- tinplate/tinplateref04.plan
          rintro v Ln ⟨o1, d1, rfl, rfl⟩
          refine Plan.appendRd (enc := enc) (sz := 2) (ys := Pl l (k + 1) b) (1) rfl rfl hDn slapiCut infapiCut rfl (by decide) enc2 enc1 rfl rfl rfl rfl rfl (fun w hm => Res.own_rd enc2 (hm.res (ownC o1 d1 (Pl l (k + 1) b)) (by simp))) (by simp; omega) (by simp; omega) fun o94 c94 => ?_
          refine Plan.assign (v := .slice _ _ _) rfl rfl rfl ?_
          refine Plan.done ?_
          refine HW.seq (HW.region [(0, .st), (1, .st), (2, .st), (3, .st), (4, .st), (5, .st), (6, .st), (7, .ef), (8, .ef), (9, .st)] rfl rfl ?_)
          refine Plan.move (v := .slice _ _ _) rfl rfl rfl ?_
          refine Plan.move (v := .slice _ _ _) rfl rfl rfl ?_
          refine Plan.move (v := .int _ _) rfl rfl rfl ?_
          refine Plan.move (v := .int _ _) rfl rfl rfl ?_
          refine Plan.arithI rfl rfl rfl rfl rfl (by omega) ?_
          refine Plan.move (v := .int _ _) rfl rfl rfl ?_
          refine Plan.move (v := .slice _ _ _) rfl rfl rfl ?_
          refine Plan.callF [] 0 rfl rfl rfl (.inl rfl) (by simp) (fun w hm => (by rw [hs]; exact ih (a - (k + 1)) b w (by omega) (by omega) hb (by omega) hb0 (hp.mem hm) (hT.mem hm))) ?_   -- tinplate/tinplateref04.plan
          rintro v Ln ⟨o2, d2, rfl, rfl⟩
          refine Plan.appendRd (enc := enc) (sz := 2) (ys := Pl l (a - (k + 1)) b) (2) rfl rfl hDn slapiCut infapiCut rfl (by decide) enc2 enc1 rfl rfl (List.length_append).symm rfl rfl (fun w hm => Res.own_rd enc2 (hm.res (ownC o2 d2 (Pl l (a - (k + 1)) b)) (by simp))) (by simp; omega) (by simp; omega) fun o103 c103 => ?_
          refine Plan.assign (v := .slice _ _ _) rfl rfl rfl ?_
          refine Plan.done ?_
          exact HW.ret ⟨rfl, _, [ownC o103 c103 (Pl l a b)], .tmp rfl .nil, (by rw [hPl]; exact .cons _ (.cons _ (.refl _))), o103, c103, slv_eq (by rw [hPl]; simp; omega), rfl⟩
        · replace h84 := of_decide_eq_false h84
          refine Plan.done ?_
          refine HW.cond_false rfl ?_
          refine HW.skip ?_
          refine HW.region [(0, .st), (1, .st), (2, .st)] rfl rfl ?_
          refine Plan.move (v := .int _ _) rfl rfl rfl ?_
          refine Plan.arithI rfl rfl rfl rfl rfl (by omega) ?_
          refine Plan.assign (v := .int _ _) rfl rfl rfl ?_
          refine Plan.done ?_
          exact ⟨⟨k + 1⟩, by dsimp only; omega, ⟨hka, fun j hj => by rcases Nat.lt_succ_iff_lt_or_eq.1 hj with h | rfl <;> (first | exact hno2 j h | exact h84)⟩, rfl, Ent.sub (.refl _), (by repeat (first | exact Agree.havoc _ _ _ | refine Agree.updN ?_ | refine Agree.upd rfl ?_ | refine Agree.updL rfl ?_ | refine Agree.havoc2 rfl ?_)), ⟨rfl, trivial⟩⟩
      · replace h63 := of_decide_eq_false h63
        have hxn : cutAt (fun x => W l (x + 1) b + W l (a - (x + 1)) b) (W l a b) (a / 2) = none := cutAt_no fun j hj => hno2 j (by omega)
        refine Plan.done ?_
        refine HW.cond_false rfl ?_
        refine HW.exit ?_
        refine HW.seq ?_
        refine HW.seq (HW.region [(0, .st)] rfl rfl ?_)
        refine Plan.assign (v := .int _ _) rfl rfl rfl ?_
        refine Plan.done ?_
        refine HW.block ?_
        refine HW.loopC (G := OfJ) [8, 13, 14, 104, 105, 106, 107, 108, 109, 110, 111, 112, 113, 114, 115, 116, 117, 118, 119, 120, 121, 122, 123, 124, 125, 126, 127, 128, 129, 130, 131, 132, 133, 134, 135, 136, 137, 138, 139, 140, 141, 142, 143, 144, 145, 146, 147] (fun g => [(13, int (g.n + 1))]) (fun g => g.n ≤ b / 2 ∧ ∀ j, j < g.n → W l a (j + 1) + W l a (b - (j + 1)) ≠ W l a b) (fun g => b / 2 - g.n) (⟨0⟩) ⟨rfl, trivial⟩ (⟨Nat.zero_le _, fun j hj => absurd hj (Nat.not_lt_zero _)⟩) (fun g F hok => ?_)
        obtain ⟨k⟩ := g
        obtain ⟨hk, hno3⟩ := hok
        dsimp only at hk hno3
        dsimp only
        refine HW.seq ?_
        refine HW.seq (HW.region [(0, .st), (1, .st), (2, .st), (3, .st)] rfl rfl ?_)
        refine Plan.move (v := .int _ _) rfl rfl rfl ?_
        refine Plan.move (v := .int _ _) rfl rfl rfl ?_
        refine Plan.quo rfl rfl rfl rfl (by omega) ?_
        refine Plan.cmp2 rfl rfl rfl rfl rfl (fun h107 => ?_) (fun h107 => ?_)
        · replace h107 := of_decide_eq_true h107
          have hka : k < b / 2 := by omega
          have q1 := W_bds hl (a := a) (b := k + 1) ha (by omega) (by omega) (by omega)
          have q2 := W_bds hl (a := a) (b := b - (k + 1)) ha (by omega) (by omega) (by omega)
          have hs : ((b : Int) - ((k : Int) + 1)) = ((b - (k + 1) : Nat) : Int) := by omega
          refine Plan.done ?_
          refine HW.cond_true rfl ?_
          refine HW.skip ?_
          refine HW.seq ?_
          refine HW.block ?_
          refine HW.seq (HW.region_any [] [(0, .st), (1, .st), (2, .st), (3, .st), (4, .st), (5, .st), (6, .st), (7, .st), (8, .st), (9, .st), (10, .st), (11, .st), (12, .st), (13, .st), (14, .st), (15, .st), (16, .st), (17, .st), (18, .st)] mix (by kernel_rfl) (fun _ _ _ _ _ h => h) (zeros rfl) ?_)
          refine Plan.move (v := .slice _ _ _) rfl rfl rfl ?_
          refine Plan.move (v := .int _ _) rfl rfl rfl ?_
          refine Plan.indexN (a) rfl rfl slSsint sizSsint rfl rfl rfl rfl ((by omega)) ?_
          refine Plan.load (v := .slice _ _ _) rfl rfl agg_int rfl (Sees.old sa (by simp)) ?_
          refine Plan.move (v := .int _ _) rfl rfl rfl ?_
          refine Plan.indexN ((k + 1)) rfl rfl slI sizI rfl rfl rfl rfl ((by omega)) ?_
          refine Plan.load (v := .int _ _) rfl rfl aggI rfl (Sees.old (hrow (k + 1) (by omega) (by omega)) (by simp)) ?_
          refine Plan.move (v := .slice _ _ _) rfl rfl rfl ?_
          refine Plan.move (v := .int _ _) rfl rfl rfl ?_
          refine Plan.indexN (a) rfl rfl slSsint sizSsint rfl rfl rfl rfl ((by omega)) ?_
          refine Plan.load (v := .slice _ _ _) rfl rfl agg_int rfl (Sees.old sa (by simp)) ?_
          refine Plan.move (v := .int _ _) rfl rfl rfl ?_
          refine Plan.move (v := .int _ _) rfl rfl rfl ?_
          refine Plan.arithI rfl rfl rfl rfl rfl (by omega) ?_
          refine Plan.indexN ((b - (k + 1))) rfl rfl slI sizI rfl rfl rfl hs ((by omega)) ?_
          refine Plan.load (v := .int _ _) rfl rfl aggI rfl (Sees.old (hrow (b - (k + 1)) (by omega) (by omega)) (by simp)) ?_
          refine Plan.arithI rfl rfl rfl rfl rfl (by omega) ?_
          refine Plan.move (v := .int _ _) rfl rfl rfl ?_
          refine Plan.cmp2 rfl rfl rfl rfl rfl (fun h128 => ?_) (fun h128 => ?_)
          · replace h128 := of_decide_eq_true h128
            have hx := cutAt_some (f := fun y => W l a (y + 1) + W l a (b - (y + 1))) hka h128 hno3
            have hPl := Pl_high l ha hb h23 hin hxn hx
            have n1 := Pl_le (l := l) (a := a) (b := k + 1) ha (by omega) (by omega) (by omega)
            have n2 := Pl_le (l := l) (a := a) (b := b - (k + 1)) ha (by omega) (by omega) (by omega)
            refine Plan.done ?_
            refine HW.cond_true rfl ?_
            refine HW.seq (HW.region [(0, .st), (1, .st), (2, .ef), (3, .st)] rfl rfl ?_)
            refine Plan.move (v := .int _ _) rfl rfl rfl ?_
            refine Plan.build rfl rfl rfl (bldCut _ _) ?_
            refine Plan.buildOwn (xs := [((3 : Int), ((k + 1 : Nat) : Int))]) (enc := enc) (sz := 2) rfl rfl rfl (bsCut1 _ _) rfl rfl (by simp) rfl fun b131 => ?_
            refine Plan.assign (v := .slice _ _ _) rfl rfl rfl ?_
            refine Plan.done ?_
            refine HW.seq (HW.region [(0, .st), (1, .st), (2, .st), (3, .st), (4, .st), (5, .ef), (6, .ef), (7, .st)] rfl rfl ?_)
            refine Plan.move (v := .slice _ _ _) rfl rfl rfl ?_
            refine Plan.move (v := .slice _ _ _) rfl rfl rfl ?_
            refine Plan.move (v := .int _ _) rfl rfl rfl ?_
            refine Plan.move (v := .int _ _) rfl rfl rfl ?_
            refine Plan.move (v := .slice _ _ _) rfl rfl rfl ?_
            refine Plan.callF [] 0 rfl rfl rfl (.inl rfl) (by simp) (fun w hm => ih a (k + 1) w (by omega) ha (by omega) ha0 (by omega) (hp.mem hm) (hT.mem hm)) ?_   -- tinplate/tinplateref04.plan
            rintro v Ln ⟨o1, d1, rfl, rfl⟩
            refine Plan.appendRd (enc := enc) (sz := 2) (ys := Pl l a (k + 1)) (1) rfl rfl hDn slapiCut infapiCut rfl (by decide) enc2 enc1 rfl rfl rfl rfl rfl (fun w hm => Res.own_rd enc2 (hm.res (ownC o1 d1 (Pl l a (k + 1))) (by simp))) (by simp; omega) (by simp; omega) fun o138 c138 => ?_
            refine Plan.assign (v := .slice _ _ _) rfl rfl rfl ?_
            refine Plan.done ?_
            refine HW.seq (HW.region [(0, .st), (1, .st), (2, .st), (3, .st), (4, .st), (5, .st), (6, .st), (7, .ef), (8, .ef), (9, .st)] rfl rfl ?_)
            refine Plan.move (v := .slice _ _ _) rfl rfl rfl ?_
            refine Plan.move (v := .slice _ _ _) rfl rfl rfl ?_
            refine Plan.move (v := .int _ _) rfl rfl rfl ?_
            refine Plan.move (v := .int _ _) rfl rfl rfl ?_
            refine Plan.move (v := .int _ _) rfl rfl rfl ?_
            refine Plan.arithI rfl rfl rfl rfl rfl (by omega) ?_
            refine Plan.move (v := .slice _ _ _) rfl rfl rfl ?_
            refine Plan.callF [] 0 rfl rfl rfl (.inl rfl) (by simp) (fun w hm => (by rw [hs]; exact ih a (b - (k + 1)) w (by omega) ha (by omega) ha0 (by omega) (hp.mem hm) (hT.mem hm))) ?_   -- tinplate/tinplateref04.plan
            rintro v Ln ⟨o2, d2, rfl, rfl⟩
            refine Plan.appendRd (enc := enc) (sz := 2) (ys := Pl l a (b - (k + 1))) (2) rfl rfl hDn slapiCut infapiCut rfl (by decide) enc2 enc1 rfl rfl (List.length_append).symm rfl rfl (fun w hm => Res.own_rd enc2 (hm.res (ownC o2 d2 (Pl l a (b - (k + 1)))) (by simp))) (by simp; omega) (by simp; omega) fun o147 c147 => ?_
            refine Plan.assign (v := .slice _ _ _) rfl rfl rfl ?_
            refine Plan.done ?_
            exact HW.ret ⟨rfl, _, [ownC o147 c147 (Pl l a b)], .tmp rfl .nil, (by rw [hPl]; exact .cons _ (.cons _ (.refl _))), o147, c147, slv_eq (by rw [hPl]; simp; omega), rfl⟩
          · replace h128 := of_decide_eq_false h128
            refine Plan.done ?_
            refine HW.cond_false rfl ?_
            refine HW.skip ?_
            refine HW.region [(0, .st), (1, .st), (2, .st)] rfl rfl ?_
            refine Plan.move (v := .int _ _) rfl rfl rfl ?_
            refine Plan.arithI rfl rfl rfl rfl rfl (by omega) ?_
            refine Plan.assign (v := .int _ _) rfl rfl rfl ?_
            refine Plan.done ?_
            exact ⟨⟨k + 1⟩, by dsimp only; omega, ⟨hka, fun j hj => by rcases Nat.lt_succ_iff_lt_or_eq.1 hj with h | rfl <;> (first | exact hno3 j h | exact h128)⟩, rfl, Ent.sub (.refl _), (by repeat (first | exact Agree.havoc _ _ _ | refine Agree.updN ?_ | refine Agree.upd rfl ?_ | refine Agree.updL rfl ?_ | refine Agree.havoc2 rfl ?_)), ⟨rfl, trivial⟩⟩
        · replace h107 := of_decide_eq_false h107
          exact (Pl_some l ha hb h23 hin hxn (cutAt_no fun j hj => hno3 j (by omega))).elim

theorem planR_ct (l : List It) (A : Option Addr) (c tb a0 b0 : Nat) (hl : l.any badI = false) (hlen : l.length ≤ 10) (ha100 : a0 ≤ 100) (hb100 : b0 ≤ 100) : ∀ N, PlanRAt l A c tb a0 b0 N
  | 0 => fun a b w h ha => by omega
  | N + 1 => planR_step l A c tb a0 b0 N hl hlen ha100 hb100 (planR_ct l A c tb a0 b0 hl hlen ha100 hb100 N)

theorem BestR_ok (A : Option Addr) (l : List It) (n c a b : Nat) (w : World) (hp : Rd encT 3 w A l) (hn : n = l.length) (ha : 0 < a) (hb : 0 < b) (ha2 : a ≤ 100) (hb2 : b ≤ 100) (hlen : l.length ≤ 10) (hl : l.any badI = false) :
    Ct P 20 #[int a, int b, .slice A n c] w [] (fun r L => ∃ o c', r = .tuple #[int (W l a b), slv o (Pl l a b).length c', int 0] ∧ L = [ownC o c' (Pl l a b)]) := by
  subst hn
  have hs : sheetF (a : Int) (b : Int) l = 0 := by rw [sheetF, if_neg (by omega), if_neg (by omega), if_neg (by rw [hl]; decide)]
  refine Ct.of_body (rs := [.tmp 6, .tmp 7, .tmp 8]) (N := 34) (L := []) Try.func20 rfl rfl rfl (by kernel_rfl) rfl (Mem.refl w) ?_
  refine HW.seq (HW.region [(0, .st), (1, .st), (2, .st)] rfl rfl ?_)
  refine Plan.assign (v := .int _ _) rfl rfl rfl ?_
  refine Plan.assign (v := .slice _ _ _) rfl rfl rfl ?_
  refine Plan.assign (v := .int _ _) rfl rfl rfl ?_
  refine Plan.done ?_
  refine HW.seq (HW.region [(0, .st), (1, .st), (2, .st), (3, .ef), (4, .st)] rfl rfl ?_)
  refine Plan.move (v := .int _ _) rfl rfl rfl ?_
  refine Plan.move (v := .int _ _) rfl rfl rfl ?_
  refine Plan.move (v := .slice _ _ _) rfl rfl rfl ?_
  refine Plan.callF [] 0 rfl rfl rfl (.inl rfl) (by simp) (fun w hm => Order_ct a b A l _ c w (hp.mem hm) rfl (by omega)) ?_   -- tinplate/tinplateref04.Order
  rintro v Ln ⟨rfl, rfl⟩
  refine Plan.assign (v := .int _ _) rfl rfl rfl ?_
  refine Plan.done ?_
  refine HW.seq ?_
  refine HW.seq (HW.region [(0, .st), (1, .st)] rfl rfl ?_)
  refine Plan.move (v := .int _ _) rfl rfl rfl ?_
  refine Plan.cmp2 rfl rfl rfl rfl rfl (fun h16 => ?_) (fun h16 => ?_)
  · replace h16 := ne_of_t h16
    exact absurd hs h16
  · replace h16 := eq_of_f h16
    refine Plan.done ?_
    refine HW.cond_false rfl ?_
    refine HW.skip ?_
    refine HW.seq (HW.region [(0, .st), (1, .st), (2, .st), (3, .ef), (4, .st)] rfl rfl ?_)
    refine Plan.move (v := .int _ _) rfl rfl rfl ?_
    refine Plan.move (v := .int _ _) rfl rfl rfl ?_
    refine Plan.move (v := .slice _ _ _) rfl rfl rfl ?_
    refine Plan.callF [] 0 rfl rfl rfl (.inl rfl) (by simp) (fun w hm => table_ct A l _ c a b w (hp.mem hm) rfl ha hb ha2 hb2 hlen hl) ?_   -- tinplate/tinplateref04.table
    rintro v Ln ⟨tb, rows, rfl, rfl, hrl, hrows⟩
    refine Plan.assign (v := .slice _ _ _) rfl rfl rfl ?_
    refine Plan.done ?_
    refine HW.conv (tabL tb (a + 1) (b + 1) rows) (fun w' hm => by simpa using hm) ?_
    obtain ⟨ra, sa, va⟩ := tab_row tb (a + 1) (b + 1) rows a (by omega) (by omega)
    have hva : (rows[a].2)[b]? = some (W l a b) := by rw [hrows a (by omega), cur_get (by omega), if_pos (by omega), Vt_pos ha hb]
    refine HW.seq (HW.region_any [] [(0, .st), (1, .st), (2, .st), (3, .st), (4, .st), (5, .st), (6, .st), (7, .st), (8, .st), (9, .st), (10, .st), (11, .ef), (12, .st), (13, .st), (14, .st)] mix (by kernel_rfl) (fun _ _ _ _ _ h => h) (zeros rfl) ?_)
    refine Plan.move (v := .slice _ _ _) rfl rfl rfl ?_
    refine Plan.move (v := .int _ _) rfl rfl rfl ?_
    refine Plan.indexN (a) rfl rfl slSsint sizSsint rfl rfl rfl rfl ((by omega)) ?_
    refine Plan.load (v := .slice _ _ _) rfl rfl agg_int rfl (sa _) ?_
    refine Plan.move (v := .int _ _) rfl rfl rfl ?_
    refine Plan.indexN (b) rfl rfl slI sizI rfl rfl rfl rfl ((by omega)) ?_
    refine Plan.load (v := .int _ _) rfl rfl aggI rfl (va b _ hva _) ?_
    refine Plan.move (v := .slice _ _ _) rfl rfl rfl ?_
    refine Plan.move (v := .int _ _) rfl rfl rfl ?_
    refine Plan.move (v := .int _ _) rfl rfl rfl ?_
    refine Plan.move (v := .slice _ _ _) rfl rfl rfl ?_
    refine Plan.callF [] 0 rfl rfl rfl (.inl rfl) (by simp) (fun w hm => planR_ct l A c tb a b hl hlen ha2 hb2 (a + b) a b w (Nat.le_refl _) ha hb (Nat.le_refl _) (Nat.le_refl _) (hp.mem hm) (tab_rd (fun r hr => hm.res r hr) hrl hrows)) ?_   -- tinplate/tinplateref04.plan
    rintro v Ln ⟨o, c1, rfl, rfl⟩
    refine Plan.assign (v := .int _ _) rfl rfl rfl ?_
    refine Plan.assign (v := .slice _ _ _) rfl rfl rfl ?_
    refine Plan.assign (v := .int _ _) rfl rfl rfl ?_
    refine Plan.done ?_
    exact HW.ret ⟨rfl, _, [ownC o c1 (Pl l a b)], .tmp rfl (.tmp rfl (.tmp rfl .nil)), .cons_cons _ (List.nil_sublist _), o, c1, rfl, rfl⟩

theorem BestR_no (A : Option Addr) (l : List It) (n c : Nat) (x y : Int) (w : World) (hp : Rd encT 3 w A l) (hn : n = l.length) (hlen : l.length ≤ 1000000) (hs : sheetF x y l ≠ 0) :
    Ct P 20 #[int x, int y, .slice A n c] w [] (fun r L => r = .tuple #[int 0, .slice none 0 0, int (sheetF x y l)] ∧ L = []) := by
  subst hn
  refine Ct.of_body (rs := [.tmp 6, .tmp 7, .tmp 8]) (N := 34) (L := []) Try.func20 rfl rfl rfl (by kernel_rfl) rfl (Mem.refl w) ?_
  refine HW.seq (HW.region [(0, .st), (1, .st), (2, .st)] rfl rfl ?_)
  refine Plan.assign (v := .int _ _) rfl rfl rfl ?_
  refine Plan.assign (v := .slice _ _ _) rfl rfl rfl ?_
  refine Plan.assign (v := .int _ _) rfl rfl rfl ?_
  refine Plan.done ?_
  refine HW.seq (HW.region [(0, .st), (1, .st), (2, .st), (3, .ef), (4, .st)] rfl rfl ?_)
  refine Plan.move (v := .int _ _) rfl rfl rfl ?_
  refine Plan.move (v := .int _ _) rfl rfl rfl ?_
  refine Plan.move (v := .slice _ _ _) rfl rfl rfl ?_
  refine Plan.callF [] 0 rfl rfl rfl (.inl rfl) (by simp) (fun w hm => Order_ct x y A l _ c w (hp.mem hm) rfl (by omega)) ?_   -- tinplate/tinplateref04.Order
  rintro v Ln ⟨rfl, rfl⟩
  refine Plan.assign (v := .int _ _) rfl rfl rfl ?_
  refine Plan.done ?_
  refine HW.seq ?_
  refine HW.seq (HW.region [(0, .st), (1, .st)] rfl rfl ?_)
  refine Plan.move (v := .int _ _) rfl rfl rfl ?_
  refine Plan.cmp2 rfl rfl rfl rfl rfl (fun h16 => ?_) (fun h16 => ?_)
  · replace h16 := ne_of_t h16
    refine Plan.done ?_
    refine HW.cond_true rfl ?_
    refine HW.seq (HW.region [(0, .st), (1, .st), (2, .st), (3, .st)] rfl rfl ?_)
    refine Plan.move (v := .int _ _) rfl rfl rfl ?_
    refine Plan.assign (v := .int _ _) rfl rfl rfl ?_
    refine Plan.assign (v := .slice _ _ _) rfl rfl rfl ?_
    refine Plan.assign (v := .int _ _) rfl rfl rfl ?_
    refine Plan.done ?_
    exact HW.ret ⟨rfl, _, [], .tmp rfl (.tmp rfl (.tmp rfl .nil)), List.nil_sublist _, rfl, rfl⟩
  · replace h16 := eq_of_f h16
    exact absurd h16 hs

theorem Cuts_far (A : Option Addr) (x y : Int) (l : List It) (n c : Nat) (w : World) (hp : Rd encT 3 w A l) (hn : n = l.length) (hlen : l.length ≤ 1000000) (hf : 30 < l.length ∨ (sheetF x y l = 0 ∧ (40 < x ∨ 40 < y))) :
    Ct P 4 #[int x, int y, .slice A n c] w [] (fun r L => r = .bool true ∧ L = []) := by
  subst hn
  refine Ct.of_body (rs := [.tmp 6]) (N := 83) (L := []) Try.func4 rfl rfl rfl (by kernel_rfl) rfl (Mem.refl w) ?_
  refine HW.seq (HW.region [(0, .st)] rfl rfl ?_)
  refine Plan.assign (v := .bool _) rfl rfl rfl ?_
  refine Plan.done ?_
  refine HW.seq ?_
  refine HW.seq (HW.region [(0, .st), (1, .st), (2, .st), (3, .st), (4, .st), (5, .st), (6, .st), (7, .ef), (8, .st), (9, .st), (10, .st), (11, .st), (12, .st), (13, .st), (14, .st), (15, .st), (16, .st), (17, .st)] rfl rfl ?_)
  refine Plan.move (v := .slice _ _ _) rfl rfl rfl ?_
  refine Plan.len rfl rfl slapiItem rfl ?_
  refine Plan.cmp2 rfl rfl rfl rfl rfl (fun h17 => ?_) (fun h17 => ?_)
  · replace h17 := of_decide_eq_true h17
    refine Plan.move (v := .bool _) rfl rfl rfl ?_
    refine Plan.no rfl rfl ?_
    refine Plan.no rfl rfl ?_
    refine Plan.no rfl rfl ?_
    refine Plan.noE rfl rfl ?_
    refine Plan.no rfl rfl ?_
    refine Plan.no rfl rfl ?_
    refine Plan.no rfl rfl ?_
    refine Plan.no rfl rfl ?_
    refine Plan.no rfl rfl ?_
    refine Plan.no rfl rfl ?_
    refine Plan.no rfl rfl ?_
    refine Plan.no rfl rfl ?_
    refine Plan.no rfl rfl ?_
    refine Plan.pick (v := .bool _) rfl rfl rfl rfl ?_
    refine Plan.done ?_
    refine HW.cond_true rfl ?_
    refine HW.seq (HW.region [(0, .ef), (1, .st)] rfl rfl ?_)
    refine Plan.callF [] 0 rfl rfl rfl (.inl rfl) (by simp) (fun w hm => alive_ct w) ?_   -- tinplate/tinplatelaw04.alive
    rintro v Ln ⟨rfl, rfl⟩
    refine Plan.splitB (fun h33 => ?_) (fun h33 => ?_)
    · skip
      refine Plan.assign (v := .bool _) rfl rfl rfl ?_
      refine Plan.done ?_
      exact HW.ret ⟨rfl, _, [], .tmp rfl .nil, List.nil_sublist _, rfl, rfl⟩
    · skip
      exact absurd h33 (by decide)
  · replace h17 := of_decide_eq_false h17
    refine Plan.move (v := .bool _) rfl rfl rfl ?_
    refine Plan.move (v := .int _ _) rfl rfl rfl ?_
    refine Plan.move (v := .int _ _) rfl rfl rfl ?_
    refine Plan.move (v := .slice _ _ _) rfl rfl rfl ?_
    refine Plan.callF [] 0 rfl rfl rfl (.inl rfl) (by simp) (fun w hm => Order_ct x y A l _ c w (hp.mem hm) rfl hlen) ?_   -- tinplate/tinplateref04.Order
    rintro v Ln ⟨rfl, rfl⟩
    refine Plan.cmp2 rfl rfl rfl rfl rfl (fun h23 => ?_) (fun h23 => ?_)
    · replace h23 := of_decide_eq_true h23
      refine Plan.move (v := .bool _) rfl rfl rfl ?_
      refine Plan.move (v := .int _ _) rfl rfl rfl ?_
      refine Plan.cmp2 rfl rfl rfl rfl rfl (fun h26 => ?_) (fun h26 => ?_)
      · replace h26 := of_decide_eq_true h26
        refine Plan.move (v := .bool _) rfl rfl rfl ?_
        refine Plan.no rfl rfl ?_
        refine Plan.no rfl rfl ?_
        refine Plan.pick (v := .bool _) rfl rfl rfl rfl ?_
        refine Plan.pick (v := .bool _) rfl rfl rfl rfl ?_
        refine Plan.pick (v := .bool _) rfl rfl rfl rfl ?_
        refine Plan.done ?_
        refine HW.cond_true rfl ?_
        refine HW.seq (HW.region [(0, .ef), (1, .st)] rfl rfl ?_)
        refine Plan.callF [] 0 rfl rfl rfl (.inl rfl) (by simp) (fun w hm => alive_ct w) ?_   -- tinplate/tinplatelaw04.alive
        rintro v Ln ⟨rfl, rfl⟩
        refine Plan.splitB (fun h33 => ?_) (fun h33 => ?_)
        · skip
          refine Plan.assign (v := .bool _) rfl rfl rfl ?_
          refine Plan.done ?_
          exact HW.ret ⟨rfl, _, [], .tmp rfl .nil, List.nil_sublist _, rfl, rfl⟩
        · skip
          exact absurd h33 (by decide)
      · replace h26 := of_decide_eq_false h26
        refine Plan.move (v := .bool _) rfl rfl rfl ?_
        refine Plan.move (v := .int _ _) rfl rfl rfl ?_
        refine Plan.cmp2 rfl rfl rfl rfl rfl (fun h29 => ?_) (fun h29 => ?_)
        · replace h29 := of_decide_eq_true h29
          refine Plan.pick (v := .bool _) rfl rfl rfl rfl ?_
          refine Plan.pick (v := .bool _) rfl rfl rfl rfl ?_
          refine Plan.pick (v := .bool _) rfl rfl rfl rfl ?_
          refine Plan.done ?_
          refine HW.cond_true rfl ?_
          refine HW.seq (HW.region [(0, .ef), (1, .st)] rfl rfl ?_)
          refine Plan.callF [] 0 rfl rfl rfl (.inl rfl) (by simp) (fun w hm => alive_ct w) ?_   -- tinplate/tinplatelaw04.alive
          rintro v Ln ⟨rfl, rfl⟩
          refine Plan.splitB (fun h33 => ?_) (fun h33 => ?_)
          · skip
            refine Plan.assign (v := .bool _) rfl rfl rfl ?_
            refine Plan.done ?_
            exact HW.ret ⟨rfl, _, [], .tmp rfl .nil, List.nil_sublist _, rfl, rfl⟩
          · skip
            exact absurd h33 (by decide)
        · replace h29 := of_decide_eq_false h29
          omega
    · replace h23 := of_decide_eq_false h23
      omega
theorem Cuts_far2 (A : Option Addr) (x y : Int) (l : List It) (n c : Nat) (w : World) (hn : n = l.length) (hf : 30 < l.length) :
    Ct P 4 #[int x, int y, .slice A n c] w [] (fun r L => r = .bool true ∧ L = []) := by
  subst hn
  refine Ct.of_body (rs := [.tmp 6]) (N := 83) (L := []) Try.func4 rfl rfl rfl (by kernel_rfl) rfl (Mem.refl w) ?_
  refine HW.seq (HW.region [(0, .st)] rfl rfl ?_)
  refine Plan.assign (v := .bool _) rfl rfl rfl ?_
  refine Plan.done ?_
  refine HW.seq ?_
  refine HW.seq (HW.region [(0, .st), (1, .st), (2, .st), (3, .st), (4, .st), (5, .st), (6, .st), (7, .ef), (8, .st), (9, .st), (10, .st), (11, .st), (12, .st), (13, .st), (14, .st), (15, .st), (16, .st), (17, .st)] rfl rfl ?_)
  refine Plan.move (v := .slice _ _ _) rfl rfl rfl ?_
  refine Plan.len rfl rfl slapiItem rfl ?_
  refine Plan.cmp2 rfl rfl rfl rfl rfl (fun h17 => ?_) (fun h17 => ?_)
  · replace h17 := of_decide_eq_true h17
    refine Plan.move (v := .bool _) rfl rfl rfl ?_
    refine Plan.no rfl rfl ?_
    refine Plan.no rfl rfl ?_
    refine Plan.no rfl rfl ?_
    refine Plan.noE rfl rfl ?_
    refine Plan.no rfl rfl ?_
    refine Plan.no rfl rfl ?_
    refine Plan.no rfl rfl ?_
    refine Plan.no rfl rfl ?_
    refine Plan.no rfl rfl ?_
    refine Plan.no rfl rfl ?_
    refine Plan.no rfl rfl ?_
    refine Plan.no rfl rfl ?_
    refine Plan.no rfl rfl ?_
    refine Plan.pick (v := .bool _) rfl rfl rfl rfl ?_
    refine Plan.done ?_
    refine HW.cond_true rfl ?_
    refine HW.seq (HW.region [(0, .ef), (1, .st)] rfl rfl ?_)
    refine Plan.callF [] 0 rfl rfl rfl (.inl rfl) (by simp) (fun w hm => alive_ct w) ?_   -- tinplate/tinplatelaw04.alive
    rintro v Ln ⟨rfl, rfl⟩
    refine Plan.splitB (fun h33 => ?_) (fun h33 => ?_)
    · skip
      refine Plan.assign (v := .bool _) rfl rfl rfl ?_
      refine Plan.done ?_
      exact HW.ret ⟨rfl, _, [], .tmp rfl .nil, List.nil_sublist _, rfl, rfl⟩
    · skip
      exact absurd h33 (by decide)
  · replace h17 := of_decide_eq_false h17
    omega

theorem Cuts_no (A : Option Addr) (x y : Int) (l : List It) (n c : Nat) (w : World) (hp : Rd encT 3 w A l) (hn : n = l.length) (h30 : l.length ≤ 30) (hs : sheetF x y l ≠ 0) :
    Ct P 4 #[int x, int y, .slice A n c] w [] (fun r L => r = .bool true ∧ L = []) := by
  subst hn
  refine Ct.of_body (rs := [.tmp 6]) (N := 83) (L := []) Try.func4 rfl rfl rfl (by kernel_rfl) rfl (Mem.refl w) ?_
  refine HW.seq (HW.region [(0, .st)] rfl rfl ?_)
  refine Plan.assign (v := .bool _) rfl rfl rfl ?_
  refine Plan.done ?_
  refine HW.seq ?_
  refine HW.seq (HW.region [(0, .st), (1, .st), (2, .st), (3, .st), (4, .st), (5, .st), (6, .st), (7, .ef), (8, .st), (9, .st), (10, .st), (11, .st), (12, .st), (13, .st), (14, .st), (15, .st), (16, .st), (17, .st)] rfl rfl ?_)
  refine Plan.move (v := .slice _ _ _) rfl rfl rfl ?_
  refine Plan.len rfl rfl slapiItem rfl ?_
  refine Plan.cmp2 rfl rfl rfl rfl rfl (fun h17 => ?_) (fun h17 => ?_)
  · replace h17 := of_decide_eq_true h17
    omega
  · replace h17 := of_decide_eq_false h17
    refine Plan.move (v := .bool _) rfl rfl rfl ?_
    refine Plan.move (v := .int _ _) rfl rfl rfl ?_
    refine Plan.move (v := .int _ _) rfl rfl rfl ?_
    refine Plan.move (v := .slice _ _ _) rfl rfl rfl ?_
    refine Plan.callF [] 0 rfl rfl rfl (.inl rfl) (by simp) (fun w hm => Order_ct x y A l _ c w (hp.mem hm) rfl (by omega)) ?_   -- tinplate/tinplateref04.Order
    rintro v Ln ⟨rfl, rfl⟩
    refine Plan.cmp2 rfl rfl rfl rfl rfl (fun h23 => ?_) (fun h23 => ?_)
    · replace h23 := of_decide_eq_true h23
      exact absurd h23 hs
    · replace h23 := of_decide_eq_false h23
      refine Plan.move (v := .bool _) rfl rfl rfl ?_
      refine Plan.no rfl rfl ?_
      refine Plan.no rfl rfl ?_
      refine Plan.no rfl rfl ?_
      refine Plan.no rfl rfl ?_
      refine Plan.no rfl rfl ?_
      refine Plan.no rfl rfl ?_
      refine Plan.pick (v := .bool _) rfl rfl rfl rfl ?_
      refine Plan.pick (v := .bool _) rfl rfl rfl rfl ?_
      refine Plan.done ?_
      refine HW.cond_false rfl ?_
      refine HW.skip ?_
      refine HW.seq (HW.region [(0, .ef), (1, .st), (2, .ef), (3, .st)] rfl rfl ?_)
      refine Plan.buildOwn (xs := ([] : List It)) (enc := encT) (sz := 3) rfl rfl rfl (bsT0) rfl rfl (by simp) rfl fun b34 => ?_
      refine Plan.move (v := .slice _ _ _) rfl rfl rfl ?_
      refine Plan.appendRd (enc := encT) (sz := 3) (ys := l) (0) rfl rfl hDn slapiItem infapiItem rfl (by decide) encT3 encT1 rfl rfl rfl rfl rfl (fun w hm => hp.mem hm) (by simp; omega) (by simp; omega) fun o36 c36 => ?_
      refine Plan.assign (v := .slice _ _ _) rfl rfl rfl ?_
      refine Plan.done ?_
      refine HW.seq (HW.region [(0, .st), (1, .st), (2, .st), (3, .ef), (4, .st), (5, .st), (6, .st), (7, .st), (8, .st), (9, .st), (10, .st)] rfl rfl ?_)
      refine Plan.move (v := .int _ _) rfl rfl rfl ?_
      refine Plan.move (v := .int _ _) rfl rfl rfl ?_
      refine Plan.move (v := .slice _ _ _) rfl rfl rfl ?_
      refine Plan.callF [] 0 rfl rfl rfl (.inl rfl) (by simp) (fun w hm => Best_no (at0 o36) l _ c36 x y w (Res.own_rd encT3 (hm.res (ownT o36 c36 ([] ++ l)) (by simp))) (by simp) (by omega) hs) ?_   -- tinplate/blank.Best
      rintro v Ln ⟨rfl, rfl⟩
      refine Plan.move (v := .tuple _) rfl rfl rfl ?_
      refine Plan.extract (v := .int _ _) rfl rfl rfl rfl ?_
      refine Plan.extract (v := .slice _ _ _) rfl rfl rfl rfl ?_
      refine Plan.extract (v := .int _ _) rfl rfl rfl rfl ?_
      refine Plan.assign (v := .int _ _) rfl rfl rfl ?_
      refine Plan.assign (v := .slice _ _ _) rfl rfl rfl ?_
      refine Plan.assign (v := .int _ _) rfl rfl rfl ?_
      refine Plan.done ?_
      refine HW.seq (HW.region [(0, .st), (1, .st), (2, .st), (3, .ef), (4, .st), (5, .st), (6, .st), (7, .st), (8, .st), (9, .st), (10, .st)] rfl rfl ?_)
      refine Plan.move (v := .int _ _) rfl rfl rfl ?_
      refine Plan.move (v := .int _ _) rfl rfl rfl ?_
      refine Plan.move (v := .slice _ _ _) rfl rfl rfl ?_
      refine Plan.callF [] 0 rfl rfl rfl (.inl rfl) (by simp) (fun w hm => BestR_no A l _ c x y w (hp.mem hm) rfl (by omega) hs) ?_   -- tinplate/tinplateref04.Best
      rintro v Ln ⟨rfl, rfl⟩
      refine Plan.move (v := .tuple _) rfl rfl rfl ?_
      refine Plan.extract (v := .int _ _) rfl rfl rfl rfl ?_
      refine Plan.extract (v := .slice _ _ _) rfl rfl rfl rfl ?_
      refine Plan.extract (v := .int _ _) rfl rfl rfl rfl ?_
      refine Plan.assign (v := .int _ _) rfl rfl rfl ?_
      refine Plan.assign (v := .slice _ _ _) rfl rfl rfl ?_
      refine Plan.assign (v := .int _ _) rfl rfl rfl ?_
      refine Plan.done ?_
      refine HW.seq ?_
      refine HW.seq (HW.region [(0, .st), (1, .st), (2, .st), (3, .st), (4, .st), (5, .st), (6, .ef), (7, .st), (8, .st), (9, .st), (10, .st), (11, .st), (12, .st), (13, .st)] rfl rfl ?_)
      refine Plan.move (v := .int _ _) rfl rfl rfl ?_
      refine Plan.move (v := .int _ _) rfl rfl rfl ?_
      refine Plan.cmp2 rfl rfl rfl rfl rfl (fun h55 => ?_) (fun h55 => ?_)
      · replace h55 := ne_of_t h55
        exact absurd rfl h55
      · replace h55 := eq_of_f h55
        refine Plan.move (v := .bool _) rfl rfl rfl ?_
        refine Plan.move (v := .slice _ _ _) rfl rfl rfl ?_
        refine Plan.move (v := .slice _ _ _) rfl rfl rfl ?_
        refine Plan.callF [] 0 rfl rfl rfl (.inl rfl) (by simp) (fun w hm => cuts_ct none none [] [] 0 0 0 0 w Rd.nil Rd.nil rfl rfl (by decide) rfl) ?_   -- tinplate/tinplatelaw04.cuts
        rintro v Ln ⟨rfl, rfl⟩
        refine Plan.splitB (fun h59 => ?_) (fun h59 => ?_)
        · skip
          refine Plan.not rfl rfl rfl ?_
          refine Plan.pick (v := .bool _) rfl rfl rfl rfl ?_
          refine Plan.move (v := .bool _) rfl rfl rfl ?_
          refine Plan.move (v := .int _ _) rfl rfl rfl ?_
          refine Plan.move (v := .int _ _) rfl rfl rfl ?_
          refine Plan.cmp2 rfl rfl rfl rfl rfl (fun h65 => ?_) (fun h65 => ?_)
          · replace h65 := ne_of_t h65
            exact absurd rfl h65
          · replace h65 := eq_of_f h65
            refine Plan.pick (v := .bool _) rfl rfl rfl rfl ?_
            refine Plan.done ?_
            refine HW.cond_false rfl ?_
            refine HW.skip ?_
            refine HW.seq ?_
            refine HW.seq (HW.region [(0, .st)] rfl rfl ?_)
            refine Plan.assign (v := .int _ _) rfl rfl rfl ?_
            refine Plan.done ?_
            refine HW.block ?_
            refine HW.loopC (G := Nat) [6, 14, 67, 68, 69, 70, 71, 72, 73, 74, 75, 76, 77, 78, 79, 80, 81] (fun g => [(14, int g)]) (fun g => g ≤ l.length) (fun g => l.length - g) (0) ⟨rfl, trivial⟩ (Nat.zero_le _) (fun g F hok => ?_)
            refine HW.seq ?_
            refine HW.seq (HW.region [(0, .st), (1, .st), (2, .st), (3, .st)] rfl rfl ?_)
            refine Plan.move (v := .int _ _) rfl rfl rfl ?_
            refine Plan.move (v := .slice _ _ _) rfl rfl rfl ?_
            refine Plan.len rfl rfl slapiItem rfl ?_
            refine Plan.cmp2 rfl rfl rfl rfl rfl (fun h70 => ?_) (fun h70 => ?_)
            · replace h70 := of_decide_eq_true h70
              have hlt : g < l.length := by omega
              refine Plan.done ?_
              refine HW.cond_true rfl ?_
              refine HW.skip ?_
              refine HW.seq ?_
              refine HW.block ?_
              obtain ⟨ad, rfl, hl1⟩ := hp g hlt
              refine HW.pure (p := ∃ b, o36 = some b) (fun w' hm => Res.own_some (hm.res (ownT o36 c36 ([] ++ l)) (by simp)) (by simp; omega)) fun hob => ?_
              obtain ⟨bo, rfl⟩ := hob
              refine HW.seq (HW.region_any [] [(0, .st), (1, .st), (2, .st), (3, .st), (4, .st), (5, .st), (6, .st), (7, .st), (8, .st)] mix (by kernel_rfl) (fun _ _ _ _ _ h => h) (zeros rfl) ?_)
              refine Plan.move (v := .slice _ _ _) rfl rfl rfl ?_
              refine Plan.move (v := .int _ _) rfl rfl rfl ?_
              refine Plan.indexN (g) rfl rfl slapiItem sizapiItem rfl rfl rfl rfl ((by simpa using hlt)) ?_
              refine Plan.loadAgg rfl rfl aggItem sizItem rfl (Sees.ownW (en := encT) (xs := l) 0 encT3 rfl bo rfl g hlt rfl) rfl ?_
              refine Plan.move (v := .slice _ _ _) rfl rfl rfl ?_
              refine Plan.move (v := .int _ _) rfl rfl rfl ?_
              refine Plan.indexN (g) rfl rfl slapiItem sizapiItem rfl rfl rfl rfl (hlt) ?_
              refine Plan.loadAgg rfl rfl aggItem sizItem rfl (Sees.old hl1 (by simp)) rfl ?_
              refine Plan.neT eqtItem l[g] l[g] rfl rfl rfl rfl rfl (fun h81 => ?_) (fun h81 => ?_)
              · skip
                exact absurd rfl h81
              · skip
                refine Plan.done ?_
                refine HW.cond_false rfl ?_
                refine HW.skip ?_
                refine HW.region [(0, .st), (1, .st), (2, .st)] rfl rfl ?_
                refine Plan.move (v := .int _ _) rfl rfl rfl ?_
                refine Plan.arithI rfl rfl rfl rfl rfl (by omega) ?_
                refine Plan.assign (v := .int _ _) rfl rfl rfl ?_
                refine Plan.done ?_
                exact ⟨g + 1, by simp only; omega, hlt, rfl, Ent.sub (.refl _), (by repeat (first | exact Agree.havoc _ _ _ | refine Agree.updN ?_ | refine Agree.upd rfl ?_ | refine Agree.updL rfl ?_ | refine Agree.havoc2 rfl ?_)), ⟨rfl, trivial⟩⟩
            · replace h70 := of_decide_eq_false h70
              refine Plan.done ?_
              refine HW.cond_false rfl ?_
              refine HW.exit ?_
              refine HW.seq (HW.region [(0, .ef), (1, .st)] rfl rfl ?_)
              refine Plan.callF [] 0 rfl rfl rfl (.inl rfl) (by simp) (fun w hm => alive_ct w) ?_   -- tinplate/tinplatelaw04.alive
              rintro v Ln ⟨rfl, rfl⟩
              refine Plan.splitB (fun h82 => ?_) (fun h82 => ?_)
              · skip
                refine Plan.assign (v := .bool _) rfl rfl rfl ?_
                refine Plan.done ?_
                exact HW.ret ⟨rfl, _, [], .tmp rfl .nil, List.nil_sublist _, rfl, rfl⟩
              · skip
                exact absurd h82 (by decide)
        · skip
          exact absurd h59 (by decide)

set_option maxRecDepth 100000 in
theorem Cuts_ok (A : Option Addr) (l : List It) (n c a b : Nat) (w : World) (hp : Rd encT 3 w A l) (hn : n = l.length) (ha : 0 < a) (hb : 0 < b) (ha2 : a ≤ 40) (hb2 : b ≤ 40) (hlen : l.length ≤ 10) (hl : l.any badI = false) :
    Ct P 4 #[int a, int b, .slice A n c] w [] (fun r L => r = .bool true ∧ L = []) := by
  subst hn
  have hs : sheetF (a : Int) (b : Int) l = 0 := by rw [sheetF, if_neg (by omega), if_neg (by omega), if_neg (by rw [hl]; decide)]
  have hpl := Pl_le (l := l) ha hb (by omega) (by omega)
  refine Ct.of_body (rs := [.tmp 6]) (N := 83) (L := []) Try.func4 rfl rfl rfl (by kernel_rfl) rfl (Mem.refl w) ?_
  refine HW.seq (HW.region [(0, .st)] rfl rfl ?_)
  refine Plan.assign (v := .bool _) rfl rfl rfl ?_
  refine Plan.done ?_
  refine HW.seq ?_
  refine HW.seq (HW.region [(0, .st), (1, .st), (2, .st), (3, .st), (4, .st), (5, .st), (6, .st), (7, .ef), (8, .st), (9, .st), (10, .st), (11, .st), (12, .st), (13, .st), (14, .st), (15, .st), (16, .st), (17, .st)] rfl rfl ?_)
  refine Plan.move (v := .slice _ _ _) rfl rfl rfl ?_
  refine Plan.len rfl rfl slapiItem rfl ?_
  refine Plan.cmp2 rfl rfl rfl rfl rfl (fun h17 => ?_) (fun h17 => ?_)
  · replace h17 := of_decide_eq_true h17
    omega
  · replace h17 := of_decide_eq_false h17
    refine Plan.move (v := .bool _) rfl rfl rfl ?_
    refine Plan.move (v := .int _ _) rfl rfl rfl ?_
    refine Plan.move (v := .int _ _) rfl rfl rfl ?_
    refine Plan.move (v := .slice _ _ _) rfl rfl rfl ?_
    refine Plan.callF [] 0 rfl rfl rfl (.inl rfl) (by simp) (fun w hm => Order_ct a b A l _ c w (hp.mem hm) rfl (by omega)) ?_   -- tinplate/tinplateref04.Order
    rintro v Ln ⟨rfl, rfl⟩
    refine Plan.cmp2 rfl rfl rfl rfl rfl (fun h23 => ?_) (fun h23 => ?_)
    · replace h23 := of_decide_eq_true h23
      refine Plan.move (v := .bool _) rfl rfl rfl ?_
      refine Plan.move (v := .int _ _) rfl rfl rfl ?_
      refine Plan.cmp2 rfl rfl rfl rfl rfl (fun h26 => ?_) (fun h26 => ?_)
      · replace h26 := of_decide_eq_true h26
        omega
      · replace h26 := of_decide_eq_false h26
        refine Plan.move (v := .bool _) rfl rfl rfl ?_
        refine Plan.move (v := .int _ _) rfl rfl rfl ?_
        refine Plan.cmp2 rfl rfl rfl rfl rfl (fun h29 => ?_) (fun h29 => ?_)
        · replace h29 := of_decide_eq_true h29
          omega
        · replace h29 := of_decide_eq_false h29
          refine Plan.pick (v := .bool _) rfl rfl rfl rfl ?_
          refine Plan.pick (v := .bool _) rfl rfl rfl rfl ?_
          refine Plan.pick (v := .bool _) rfl rfl rfl rfl ?_
          refine Plan.done ?_
          refine HW.cond_false rfl ?_
          refine HW.skip ?_
          refine HW.seq (HW.region [(0, .ef), (1, .st), (2, .ef), (3, .st)] rfl rfl ?_)
          refine Plan.buildOwn (xs := ([] : List It)) (enc := encT) (sz := 3) rfl rfl rfl (bsT0) rfl rfl (by simp) rfl fun b34 => ?_
          refine Plan.move (v := .slice _ _ _) rfl rfl rfl ?_
          refine Plan.appendRd (enc := encT) (sz := 3) (ys := l) (0) rfl rfl hDn slapiItem infapiItem rfl (by decide) encT3 encT1 rfl rfl rfl rfl rfl (fun w hm => hp.mem hm) (by simp; omega) (by simp; omega) fun o36 c36 => ?_
          refine Plan.assign (v := .slice _ _ _) rfl rfl rfl ?_
          refine Plan.done ?_
          refine HW.seq (HW.region [(0, .st), (1, .st), (2, .st), (3, .ef), (4, .st), (5, .st), (6, .st), (7, .st), (8, .st), (9, .st), (10, .st)] rfl rfl ?_)
          refine Plan.move (v := .int _ _) rfl rfl rfl ?_
          refine Plan.move (v := .int _ _) rfl rfl rfl ?_
          refine Plan.move (v := .slice _ _ _) rfl rfl rfl ?_
          refine Plan.callF [] 0 rfl rfl rfl (.inl rfl) (by simp) (fun w hm => Best_ok (at0 o36) l _ c36 a b w (Res.own_rd encT3 (hm.res (ownT o36 c36 ([] ++ l)) (by simp))) (by simp) ha hb (by omega) (by omega) hlen hl) ?_   -- tinplate/blank.Best
          rintro v Ln ⟨o1, d1, rfl, rfl⟩
          refine Plan.move (v := .tuple _) rfl rfl rfl ?_
          refine Plan.extract (v := .int _ _) rfl rfl rfl rfl ?_
          refine Plan.extract (v := .slice _ _ _) rfl rfl rfl rfl ?_
          refine Plan.extract (v := .int _ _) rfl rfl rfl rfl ?_
          refine Plan.assign (v := .int _ _) rfl rfl rfl ?_
          refine Plan.assign (v := .slice _ _ _) rfl rfl rfl ?_
          refine Plan.assign (v := .int _ _) rfl rfl rfl ?_
          refine Plan.done ?_
          refine HW.seq (HW.region [(0, .st), (1, .st), (2, .st), (3, .ef), (4, .st), (5, .st), (6, .st), (7, .st), (8, .st), (9, .st), (10, .st)] rfl rfl ?_)
          refine Plan.move (v := .int _ _) rfl rfl rfl ?_
          refine Plan.move (v := .int _ _) rfl rfl rfl ?_
          refine Plan.move (v := .slice _ _ _) rfl rfl rfl ?_
          refine Plan.callF [] 0 rfl rfl rfl (.inl rfl) (by simp) (fun w hm => BestR_ok A l _ c a b w (hp.mem hm) rfl ha hb (by omega) (by omega) hlen hl) ?_   -- tinplate/tinplateref04.Best
          rintro v Ln ⟨o2, d2, rfl, rfl⟩
          refine Plan.move (v := .tuple _) rfl rfl rfl ?_
          refine Plan.extract (v := .int _ _) rfl rfl rfl rfl ?_
          refine Plan.extract (v := .slice _ _ _) rfl rfl rfl rfl ?_
          refine Plan.extract (v := .int _ _) rfl rfl rfl rfl ?_
          refine Plan.assign (v := .int _ _) rfl rfl rfl ?_
          refine Plan.assign (v := .slice _ _ _) rfl rfl rfl ?_
          refine Plan.assign (v := .int _ _) rfl rfl rfl ?_
          refine Plan.done ?_
          refine HW.seq ?_
          refine HW.seq (HW.region [(0, .st), (1, .st), (2, .st), (3, .st), (4, .st), (5, .st), (6, .ef), (7, .st), (8, .st), (9, .st), (10, .st), (11, .st), (12, .st), (13, .st)] rfl rfl ?_)
          refine Plan.move (v := .int _ _) rfl rfl rfl ?_
          refine Plan.move (v := .int _ _) rfl rfl rfl ?_
          refine Plan.cmp2 rfl rfl rfl rfl rfl (fun h55 => ?_) (fun h55 => ?_)
          · replace h55 := ne_of_t h55
            exact absurd rfl h55
          · replace h55 := eq_of_f h55
            refine Plan.move (v := .bool _) rfl rfl rfl ?_
            refine Plan.move (v := .slice _ _ _) rfl rfl rfl ?_
            refine Plan.move (v := .slice _ _ _) rfl rfl rfl ?_
            refine Plan.callF [] 0 rfl rfl rfl (.inl rfl) (by simp) (fun w hm => cuts_ct (at0 o1) (at0 o2) (Pl l a b) (Pl l a b) _ _ d1 d2 w (Res.own_rd enc2 (hm.res (ownC o1 d1 (Pl l a b)) (by simp))) (Res.own_rd enc2 (hm.res (ownC o2 d2 (Pl l a b)) (by simp))) rfl rfl (by omega) rfl) ?_   -- tinplate/tinplatelaw04.cuts
            rintro v Ln ⟨rfl, rfl⟩
            refine Plan.splitB (fun h59 => ?_) (fun h59 => ?_)
            · skip
              refine Plan.not rfl rfl rfl ?_
              refine Plan.pick (v := .bool _) rfl rfl rfl rfl ?_
              refine Plan.move (v := .bool _) rfl rfl rfl ?_
              refine Plan.move (v := .int _ _) rfl rfl rfl ?_
              refine Plan.move (v := .int _ _) rfl rfl rfl ?_
              refine Plan.cmp2 rfl rfl rfl rfl rfl (fun h65 => ?_) (fun h65 => ?_)
              · replace h65 := ne_of_t h65
                exact absurd rfl h65
              · replace h65 := eq_of_f h65
                refine Plan.pick (v := .bool _) rfl rfl rfl rfl ?_
                refine Plan.done ?_
                refine HW.cond_false rfl ?_
                refine HW.skip ?_
                refine HW.seq ?_
                refine HW.seq (HW.region [(0, .st)] rfl rfl ?_)
                refine Plan.assign (v := .int _ _) rfl rfl rfl ?_
                refine Plan.done ?_
                refine HW.block ?_
                refine HW.loopC (G := Nat) [6, 14, 67, 68, 69, 70, 71, 72, 73, 74, 75, 76, 77, 78, 79, 80, 81] (fun g => [(14, int g)]) (fun g => g ≤ l.length) (fun g => l.length - g) (0) ⟨rfl, trivial⟩ (Nat.zero_le _) (fun g F hok => ?_)
                refine HW.seq ?_
                refine HW.seq (HW.region [(0, .st), (1, .st), (2, .st), (3, .st)] rfl rfl ?_)
                refine Plan.move (v := .int _ _) rfl rfl rfl ?_
                refine Plan.move (v := .slice _ _ _) rfl rfl rfl ?_
                refine Plan.len rfl rfl slapiItem rfl ?_
                refine Plan.cmp2 rfl rfl rfl rfl rfl (fun h70 => ?_) (fun h70 => ?_)
                · replace h70 := of_decide_eq_true h70
                  have hlt : g < l.length := by omega
                  refine Plan.done ?_
                  refine HW.cond_true rfl ?_
                  refine HW.skip ?_
                  refine HW.seq ?_
                  refine HW.block ?_
                  obtain ⟨ad, rfl, hl1⟩ := hp g hlt
                  refine HW.pure (p := ∃ b, o36 = some b) (fun w' hm => Res.own_some (hm.res (ownT o36 c36 ([] ++ l)) (by simp)) (by simp; omega)) fun hob => ?_
                  obtain ⟨bo, rfl⟩ := hob
                  refine HW.seq (HW.region_any [] [(0, .st), (1, .st), (2, .st), (3, .st), (4, .st), (5, .st), (6, .st), (7, .st), (8, .st)] mix (by kernel_rfl) (fun _ _ _ _ _ h => h) (zeros rfl) ?_)
                  refine Plan.move (v := .slice _ _ _) rfl rfl rfl ?_
                  refine Plan.move (v := .int _ _) rfl rfl rfl ?_
                  refine Plan.indexN (g) rfl rfl slapiItem sizapiItem rfl rfl rfl rfl ((by simpa using hlt)) ?_
                  refine Plan.loadAgg rfl rfl aggItem sizItem rfl (Sees.ownW (en := encT) (xs := l) 2 encT3 rfl bo rfl g hlt rfl) rfl ?_
                  refine Plan.move (v := .slice _ _ _) rfl rfl rfl ?_
                  refine Plan.move (v := .int _ _) rfl rfl rfl ?_
                  refine Plan.indexN (g) rfl rfl slapiItem sizapiItem rfl rfl rfl rfl (hlt) ?_
                  refine Plan.loadAgg rfl rfl aggItem sizItem rfl (Sees.old hl1 (by simp)) rfl ?_
                  refine Plan.neT eqtItem l[g] l[g] rfl rfl rfl rfl rfl (fun h81 => ?_) (fun h81 => ?_)
                  · skip
                    exact absurd rfl h81
                  · skip
                    refine Plan.done ?_
                    refine HW.cond_false rfl ?_
                    refine HW.skip ?_
                    refine HW.region [(0, .st), (1, .st), (2, .st)] rfl rfl ?_
                    refine Plan.move (v := .int _ _) rfl rfl rfl ?_
                    refine Plan.arithI rfl rfl rfl rfl rfl (by omega) ?_
                    refine Plan.assign (v := .int _ _) rfl rfl rfl ?_
                    refine Plan.done ?_
                    exact ⟨g + 1, by simp only; omega, hlt, rfl, Ent.sub (.refl _), (by repeat (first | exact Agree.havoc _ _ _ | refine Agree.updN ?_ | refine Agree.upd rfl ?_ | refine Agree.updL rfl ?_ | refine Agree.havoc2 rfl ?_)), ⟨rfl, trivial⟩⟩
                · replace h70 := of_decide_eq_false h70
                  refine Plan.done ?_
                  refine HW.cond_false rfl ?_
                  refine HW.exit ?_
                  refine HW.seq (HW.region [(0, .ef), (1, .st)] rfl rfl ?_)
                  refine Plan.callF [] 0 rfl rfl rfl (.inl rfl) (by simp) (fun w hm => alive_ct w) ?_   -- tinplate/tinplatelaw04.alive
                  rintro v Ln ⟨rfl, rfl⟩
                  refine Plan.splitB (fun h82 => ?_) (fun h82 => ?_)
                  · skip
                    refine Plan.assign (v := .bool _) rfl rfl rfl ?_
                    refine Plan.done ?_
                    exact HW.ret ⟨rfl, _, [], .tmp rfl .nil, List.nil_sublist _, rfl, rfl⟩
                  · skip
                    exact absurd h82 (by decide)
            · skip
              exact absurd h59 (by decide)
    · replace h23 := of_decide_eq_false h23
      exact absurd hs h23

theorem blankCuts_ct (A : Option Addr) (x y : Int) (l : List It) (n c : Nat) (w : World) (hp : Rd encT 3 w A l) (hn : n = l.length) :
    Ct P 4 #[int x, int y, .slice A n c] w [] (fun r L => r = .bool true ∧ L = []) := by
  by_cases h30 : 30 < l.length
  · exact Cuts_far2 A x y l n c w hn h30
  · by_cases hs : sheetF x y l = 0
    · obtain ⟨x1, x2, y1, y2, hlen, hl⟩ := sheetF_ok hs
      by_cases hf : 40 < x ∨ 40 < y
      · exact Cuts_far A x y l n c w hp hn (by omega) (.inr ⟨hs, hf⟩)
      · obtain ⟨a, rfl⟩ := Int.eq_ofNat_of_zero_le (show 0 ≤ x by omega)
        obtain ⟨b, rfl⟩ := Int.eq_ofNat_of_zero_le (show 0 ≤ y by omega)
        exact Cuts_ok A l n c a b w hp hn (by omega) (by omega) (by omega) (by omega) hlen hl
    · exact Cuts_no A x y l n c w hp hn (by omega) hs

end Go.Proofs.Ytjmklbkcpjmcaaa.V
