/-
  Package blank: the saw, read; Worth.
-/
import Derived.Test.YtjmklbkcpjmcaaaB9
import Derived.Test.YtjmklbkcpjmcaaaH5
import Derived.Test.YtjmklbkcpjmcaaaL1
namespace Go.Proofs.Ytjmklbkcpjmcaaa.V
open Go Go.RowKit Go.Proofs.Ytjmklbkcpjmcaaa.H Go.Proofs.Ytjmklbkcpjmcaaa.LL
set_option linter.unusedVariables false
set_option linter.unusedSimpArgs false

theorem agg_int (w : World) : (isAgg 43).run P w = .ok false w := by kernel_rfl
theorem siz_int (w : World) : (sizeOf 43).run P w = .ok 1 w := by kernel_rfl
theorem encIo (x : Int) : (encI x).all (·.oneCell') = true := rfl
theorem infI : ∃ ti, P.info? 3 = some ti ∧ (ti.zero, ti.size, ti.bytes) = (some (int 0), 1, 8) := by
  have e : (P.info? 3).map (fun ti => (ti.zero, ti.size, ti.bytes)) = some (some (int 0), 1, 8) := by kernel_rfl
  obtain ⟨ti, h1, h2⟩ := Option.map_eq_some_iff.1 e
  exact ⟨ti, h1, h2⟩
abbrev ownI (o : Option Nat) (c : Nat) (xs : List Int) : Res := Res.own encI 1 3 o c xs

theorem aggsaw (w : World) : (isAgg 89).run P w = .ok true w := by kernel_rfl
theorem sizsaw (w : World) : (sizeOf 89).run P w = .ok 4 w := by kernel_rfl
theorem fldsaw0 (w : World) (a : Addr) : (Instr.fieldAt 89 (.pointer (some a)) 0).run P w = .ok (.pointer (some (a.add 0))) w := by kernel_rfl
theorem fldsaw1 (w : World) (a : Addr) : (Instr.fieldAt 89 (.pointer (some a)) 1).run P w = .ok (.pointer (some (a.add 1))) w := by kernel_rfl
theorem fldsaw2 (w : World) (a : Addr) : (Instr.fieldAt 89 (.pointer (some a)) 2).run P w = .ok (.pointer (some (a.add 2))) w := by kernel_rfl
theorem fldsaw3 (w : World) (a : Addr) : (Instr.fieldAt 89 (.pointer (some a)) 3).run P w = .ok (.pointer (some (a.add 3))) w := by kernel_rfl
theorem bldsaw (A B D : Option Addr) (n c m d k e : Nat) (w : World) : (Instr.build 89 #[(0, .slice A n c), (1, .slice B m d), (3, .slice D k e)]).run P w = .ok (.agg #[.slice A n c, .slice B m d, int 0, .slice D k e]) w := by kernel_rfl

/-- what is left of a plan lies where the plan lies -/
structure Tail (A : Option Addr) (p : List Ct2) (A' : Option Addr) (p' : List Ct2) : Prop where
  rd : ∀ w, Rd enc 2 w A p → Rd enc 2 w A' p'
  off : ∀ X, Off X A p.length → Off X A' p'.length
theorem Tail.trans {A B D : Option Addr} {p q r : List Ct2} (h : Tail A p B q) (k : Tail B q D r) : Tail A p D r := ⟨fun w hw => k.rd w (h.rd w hw), fun X hX => k.off X (h.off X hX)⟩
theorem Tail.cut {A : Option Addr} {q : Ct2} {r : List Ct2} {c : Nat} (hc : (q :: r).length ≤ c) : Tail A (q :: r) (cutA A c 1 2) r := ⟨fun w hw => hw.cut hc 1, fun X hX => hX.cut (lo := 1)⟩

abbrev sawR (l : List It) (A : Option Addr) (c : Nat) (B : Option Addr) (n pc : Nat) (s : Int) (sb mb mc : Nat) : Res := Res.blk sb #[.slice A l.length c, .slice B n pc, int s, slv (some mb) l.length mc] 89

def ReadR (l : List It) (A : Option Addr) (c sb mb mc : Nat) (p : List Ct2) (B : Option Addr) (s : Int) (m : List Int) (a b : Nat) : Value → List Res → Prop := fun r L =>
  r = .bool (rdP l a b p).isSome ∧ ∀ p' u, rdP l a b p = some (p', u) → ∃ B' pc', Tail B p B' p' ∧ p'.length ≤ pc' ∧ L = [sawR l A c B' p'.length pc' (s + valU l u) sb mb mc, ownI (some mb) mc (addU m u)]
theorem ReadR_no {l : List It} {A : Option Addr} {c sb mb mc : Nat} {p : List Ct2} {B : Option Addr} {s : Int} {m : List Int} {a b : Nat} {L : List Res} (e : rdP l a b p = none) : ReadR l A c sb mb mc p B s m a b (.bool false) L :=
  ⟨by rw [e]; rfl, fun p' u h => by rw [e] at h; cases h⟩
theorem ReadR_yes {l : List It} {A : Option Addr} {c sb mb mc : Nat} {p p' : List Ct2} {B B' : Option Addr} {s s' : Int} {m m' : List Int} {a b pc' : Nat} {u : List Nat} (e : rdP l a b p = some (p', u)) (ht : Tail B p B' p') (hc : p'.length ≤ pc')
    (hs : s' = s + valU l u) (hm : m' = addU m u) : ReadR l A c sb mb mc p B s m a b (.bool true) [sawR l A c B' p'.length pc' s' sb mb mc, ownI (some mb) mc m'] :=
  ⟨by rw [e]; rfl, fun p2 u2 h => by
    rw [e] at h
    simp only [Option.some.injEq, Prod.mk.injEq] at h
    obtain ⟨rfl, rfl⟩ := h
    subst hs hm
    exact ⟨B', pc', ht, hc, rfl⟩⟩

/-- the contract of read, for plans up to a length -/
def ReadAt (l : List It) (A : Option Addr) (c sb mb mc N : Nat) : Prop := ∀ (p : List Ct2) (B : Option Addr) (pc : Nat) (s : Int) (m : List Int) (a b : Nat) (w : World), p.length < N → 0 < a → 0 < b → a ≤ 100 → b ≤ 100 →
  Rd encT 3 w A l → Off [sb, mb] A l.length → Rd enc 2 w B p → Off [sb, mb] B p.length → p.length ≤ pc →
  (sawR l A c B p.length pc s sb mb mc).holds w → (ownI (some mb) mc m).holds w → m.length = l.length → sb ≠ mb → 0 ≤ s → s + 1048576 * p.length ≤ 1099511627776 → (∀ x ∈ m, 0 ≤ x ∧ x + p.length ≤ 1099511627776) →
  Ct P 53 #[.pointer (some ⟨sb, 0, none⟩), int a, int b] w [sb, mb] (ReadR l A c sb mb mc p B s m a b)

theorem badI_val {l : List It} (hl : l.any badI = false) : ∀ i ∈ l, 0 ≤ i.2.2 ∧ i.2.2 ≤ 1048576 := fun i hi => by
  have := List.any_eq_false.1 hl i hi
  simp only [badI, decide_eq_true_eq] at this
  omega

set_option maxRecDepth 100000 in
theorem read_step (l : List It) (A : Option Addr) (c sb mb mc N : Nat) (hl : l.any badI = false) (hlen : l.length ≤ 10) (ih : ReadAt l A c sb mb mc N) : ReadAt l A c sb mb mc (N + 1) := by
  intro p B pc s m a b w hN ha hb ha2 hb2 hA oA hp oP hpc hsw hmo hml hne s0 s1 hm0
  have hM : Mem w [sb, mb] [sawR l A c B p.length pc s sb mb mc, ownI (some mb) mc m] w := Mem.own2 hsw hmo (fun x hx => by
      obtain rfl := List.mem_singleton.1 hx
      exact (Array.getElem?_eq_some_iff.1 hsw).1) (fun x hx => by
      obtain rfl := List.mem_singleton.1 hx
      exact Res.own_lt hmo) (fun x hx hx' => by
      obtain rfl := List.mem_singleton.1 hx
      exact hne (List.mem_singleton.1 hx'))
  refine Ct.of_body (rs := [.tmp 6]) (N := 144) (L := [sawR l A c B p.length pc s sb mb mc, ownI (some mb) mc m]) Try.func53 rfl rfl rfl (by kernel_rfl) rfl hM ?_
  refine HW.seq (HW.region [(0, .st)] rfl rfl ?_)
  refine Plan.assign (v := .bool _) rfl rfl rfl ?_
  refine Plan.done ?_
  refine HW.seq ?_
  refine HW.seq (HW.region [(0, .st), (1, .st), (2, .st), (3, .st), (4, .st), (5, .st)] rfl rfl ?_)
  refine Plan.move (v := .pointer _) rfl rfl rfl ?_
  refine Plan.nilCheck rfl rfl rfl ?_
  refine Plan.fieldAddr rfl rfl fldsaw1 rfl ?_
  refine Plan.load (v := .slice _ _ _) rfl rfl agg_api_Cut rfl (Sees.one 0 rfl rfl) ?_
  refine Plan.len rfl rfl slapiCut rfl ?_
  refine Plan.cmp2 rfl rfl rfl rfl rfl (fun h13 => ?_) (fun h13 => ?_)
  · replace h13 := of_decide_eq_true h13
    have e : rdP l a b p = none := by rw [List.eq_nil_of_length_eq_zero (show p.length = 0 by omega), rdP_nil]
    refine Plan.done ?_
    refine HW.cond_true rfl ?_
    refine HW.seq (HW.region [(0, .st)] rfl rfl ?_)
    refine Plan.assign (v := .bool _) rfl rfl rfl ?_
    refine Plan.done ?_
    exact HW.ret ⟨rfl, _, [], .tmp rfl .nil, List.nil_sublist _, ReadR_no e⟩
  · replace h13 := of_decide_eq_false h13
    obtain ⟨q, r, rfl⟩ : ∃ q r, p = q :: r := List.exists_cons_of_ne_nil (fun e => h13 (by rw [e]; rfl))
    obtain ⟨t, x⟩ := q
    have htl := Tail.cut (A := B) hpc
    simp only [List.length_cons] at s1 hm0 hN hpc
    obtain ⟨ad0, rfl, _⟩ := hp 0 (by simp)
    have hr0 := htl.rd _ hp
    have hr1 := htl.off _ oP
    refine Plan.done ?_
    refine HW.cond_false rfl ?_
    refine HW.skip ?_
    refine HW.seq (HW.region [(0, .st), (1, .st), (2, .st), (3, .st), (4, .st), (5, .st), (6, .al), (7, .ef)] rfl rfl ?_)
    refine Plan.move (v := .pointer _) rfl rfl rfl ?_
    refine Plan.nilCheck rfl rfl rfl ?_
    refine Plan.fieldAddr rfl rfl fldsaw1 rfl ?_
    refine Plan.load (v := .slice _ _ _) rfl rfl agg_api_Cut rfl (Sees.one 0 rfl rfl) ?_
    refine Plan.indexN (0) rfl rfl slapiCut sizapiCut rfl rfl rfl rfl ((by simp)) ?_
    refine Plan.loadAgg rfl rfl aggCut sizCut rfl (Sees.rdX hp oP 0 (by simp)) rfl ?_
    refine Plan.alloc rfl zerCut fun b7 => ?_
    refine Plan.storeA 0 rfl rfl hDn sizCut rfl rfl rfl rfl rfl rfl ?_
    refine Plan.done ?_
    refine HW.seq (HW.region [(0, .st), (1, .st), (2, .st), (3, .st), (4, .st), (5, .st), (6, .st), (7, .st), (8, .ef)] rfl rfl ?_)
    refine Plan.move (v := .pointer _) rfl rfl rfl ?_
    refine Plan.move (v := .pointer _) rfl rfl rfl ?_
    refine Plan.nilCheck rfl rfl rfl ?_
    refine Plan.fieldAddr rfl rfl fldsaw1 rfl ?_
    refine Plan.load (v := .slice _ _ _) rfl rfl agg_api_Cut rfl (Sees.one 1 rfl rfl) ?_
    refine Plan.sliceLoA (1) rfl rfl slapiCut sizapiCut rfl rfl rfl ((by simp)) ?_
    refine Plan.nilCheck rfl rfl rfl ?_
    refine Plan.fieldAddr rfl rfl fldsaw1 rfl ?_
    refine Plan.store (v := .slice _ _ _) 1 rfl rfl hDn siz_api_Cut rfl rfl rfl rfl (Nat.le_of_ble_eq_true rfl) (ones_spec rfl) rfl ?_
    refine Plan.done ?_
    refine HW.seq ?_
    refine HW.conv [sawR l A c (cutA (some ad0) pc 1 2) r.length (pc - 1) s sb mb mc, ownI (some mb) mc m, Res.blk b7 #[int t, int x] 69] (fun w hm => hm.perm ((List.Perm.swap _ _ _).trans (.cons _ (.swap _ _ _)))) ?_
    refine HW.seq (HW.region [(0, .st), (1, .st)] rfl rfl ?_)
    refine Plan.fieldAddr rfl rfl fldCut0 rfl ?_
    refine Plan.load (v := .int _ _) rfl rfl aggI rfl (Sees.one 2 rfl rfl) ?_
    refine Plan.done ?_
    refine HW.block ?_
    refine HW.seq (HW.region [(0, .st), (1, .st)] rfl rfl ?_)
    refine Plan.cmp2 rfl rfl rfl rfl rfl (fun h31 => ?_) (fun h31 => ?_)
    · replace h31 := of_decide_eq_true h31
      obtain rfl := h31
      refine Plan.assign (v := .bool _) rfl rfl rfl ?_
      refine Plan.done ?_
      refine HW.cond_true rfl ?_
      refine HW.seq (HW.region [(0, .st), (1, .st), (2, .st), (3, .st)] rfl rfl ?_)
      refine Plan.fieldAddr rfl rfl fldCut1 rfl ?_
      refine Plan.load (v := .int _ _) rfl rfl aggI rfl (Sees.one 2 rfl rfl) ?_
      refine Plan.cmp2 rfl rfl rfl rfl rfl (fun h34 => ?_) (fun h34 => ?_)
      · replace h34 := of_decide_eq_true h34
        obtain rfl := h34
        refine Plan.assign (v := .bool _) rfl rfl rfl ?_
        refine Plan.done ?_
        exact HW.ret ⟨rfl, _, [sawR l A c (cutA (some ad0) pc 1 2) r.length (pc - 1) s sb mb mc, ownI (some mb) mc m], .tmp rfl .nil, .cons_cons _ (.cons_cons _ (List.nil_sublist _)), ReadR_yes (u := []) (by rw [rdP_waste, if_pos rfl]) htl (by omega) (by simp [valU]) rfl⟩
      · replace h34 := of_decide_eq_false h34
        have e : rdP l a b ((0, x) :: r) = none := by rw [rdP_waste, if_neg h34]
        refine Plan.assign (v := .bool _) rfl rfl rfl ?_
        refine Plan.done ?_
        exact HW.ret ⟨rfl, _, [], .tmp rfl .nil, List.nil_sublist _, ReadR_no e⟩
    · replace h31 := of_decide_eq_false h31
      refine Plan.assign (v := .bool _) rfl rfl rfl ?_
      refine Plan.done ?_
      refine HW.cond_false rfl ?_
      refine HW.seq (HW.region [(0, .st), (1, .st)] rfl rfl ?_)
      refine Plan.cmp2 rfl rfl rfl rfl rfl (fun h36 => ?_) (fun h36 => ?_)
      · replace h36 := of_decide_eq_true h36
        obtain rfl := h36
        refine Plan.assign (v := .bool _) rfl rfl rfl ?_
        refine Plan.done ?_
        refine HW.cond_true rfl ?_
        refine HW.seq ?_
        refine HW.seq (HW.region_any [] [(0, .st), (1, .st), (2, .st), (3, .st), (4, .st), (5, .st), (6, .st), (7, .st), (8, .st), (9, .st), (10, .st), (11, .st), (12, .st), (13, .st), (14, .st), (15, .st), (16, .st), (17, .st), (18, .st), (19, .st), (20, .st), (21, .st), (22, .st), (23, .st), (24, .ef), (25, .st), (26, .st)] mix (by kernel_rfl) (fun _ _ _ _ _ h => h) (zeros rfl) ?_)
        refine Plan.fieldAddr rfl rfl fldCut1 rfl ?_
        refine Plan.load (v := .int _ _) rfl rfl aggI rfl (Sees.one 2 rfl rfl) ?_
        refine Plan.cmp2 rfl rfl rfl rfl rfl (fun h39 => ?_) (fun h39 => ?_)
        · replace h39 := of_decide_eq_true h39
          have e : rdP l a b ((1, x) :: r) = none := by rw [rdP_item, if_neg (by omega)]
          refine Plan.move (v := .bool _) rfl rfl rfl ?_
          refine Plan.no rfl rfl ?_
          refine Plan.no rfl rfl ?_
          refine Plan.no rfl rfl ?_
          refine Plan.no rfl rfl ?_
          refine Plan.no rfl rfl ?_
          refine Plan.no rfl rfl ?_
          refine Plan.no rfl rfl ?_
          refine Plan.no rfl rfl ?_
          refine Plan.pick (v := .bool _) rfl rfl rfl rfl ?_
          refine Plan.move (v := .bool _) rfl rfl rfl ?_
          refine Plan.no rfl rfl ?_
          refine Plan.no rfl rfl ?_
          refine Plan.no rfl rfl ?_
          refine Plan.no rfl rfl ?_
          refine Plan.no rfl rfl ?_
          refine Plan.no rfl rfl ?_
          refine Plan.no rfl rfl ?_
          refine Plan.no rfl rfl ?_
          refine Plan.no rfl rfl ?_
          refine Plan.no rfl rfl ?_
          refine Plan.noE rfl rfl ?_
          refine Plan.no rfl rfl ?_
          refine Plan.pick (v := .bool _) rfl rfl rfl rfl ?_
          refine Plan.done ?_
          refine HW.cond_true rfl ?_
          refine HW.seq (HW.region [(0, .st)] rfl rfl ?_)
          refine Plan.assign (v := .bool _) rfl rfl rfl ?_
          refine Plan.done ?_
          exact HW.ret ⟨rfl, _, [], .tmp rfl .nil, List.nil_sublist _, ReadR_no e⟩
        · replace h39 := of_decide_eq_false h39
          refine Plan.move (v := .bool _) rfl rfl rfl ?_
          refine Plan.fieldAddr rfl rfl fldCut1 rfl ?_
          refine Plan.load (v := .int _ _) rfl rfl aggI rfl (Sees.one 2 rfl rfl) ?_
          refine Plan.move (v := .pointer _) rfl rfl rfl ?_
          refine Plan.nilCheck rfl rfl rfl ?_
          refine Plan.fieldAddr rfl rfl fldsaw0 rfl ?_
          refine Plan.load (v := .slice _ _ _) rfl rfl agg_api_Item rfl (Sees.one 0 rfl rfl) ?_
          refine Plan.len rfl rfl slapiItem rfl ?_
          refine Plan.cmp2 rfl rfl rfl rfl rfl (fun h48 => ?_) (fun h48 => ?_)
          · replace h48 := of_decide_eq_true h48
            have e : rdP l a b ((1, x) :: r) = none := by rw [rdP_item, if_neg (by omega)]
            refine Plan.pick (v := .bool _) rfl rfl rfl rfl ?_
            refine Plan.move (v := .bool _) rfl rfl rfl ?_
            refine Plan.no rfl rfl ?_
            refine Plan.no rfl rfl ?_
            refine Plan.no rfl rfl ?_
            refine Plan.no rfl rfl ?_
            refine Plan.no rfl rfl ?_
            refine Plan.no rfl rfl ?_
            refine Plan.no rfl rfl ?_
            refine Plan.no rfl rfl ?_
            refine Plan.no rfl rfl ?_
            refine Plan.no rfl rfl ?_
            refine Plan.noE rfl rfl ?_
            refine Plan.no rfl rfl ?_
            refine Plan.pick (v := .bool _) rfl rfl rfl rfl ?_
            refine Plan.done ?_
            refine HW.cond_true rfl ?_
            refine HW.seq (HW.region [(0, .st)] rfl rfl ?_)
            refine Plan.assign (v := .bool _) rfl rfl rfl ?_
            refine Plan.done ?_
            exact HW.ret ⟨rfl, _, [], .tmp rfl .nil, List.nil_sublist _, ReadR_no e⟩
          · replace h48 := of_decide_eq_false h48
            obtain ⟨k, rfl⟩ := Int.eq_ofNat_of_zero_le (show 0 ≤ x by omega)
            have hk : k < l.length := by omega
            obtain ⟨ad, rfl, _⟩ := hA k hk
            have hgk : l.getD k (0, 0, 0) = l[k] := by simp only [List.getD_eq_getElem?_getD, List.getElem?_eq_getElem hk, Option.getD_some]
            have hbk := badI_val hl l[k] (List.getElem_mem hk)
            have hkm : k < m.length := by omega
            have hmk := hm0 m[k] (List.getElem_mem hkm)
            refine Plan.pick (v := .bool _) rfl rfl rfl rfl ?_
            refine Plan.move (v := .bool _) rfl rfl rfl ?_
            refine Plan.move (v := .pointer _) rfl rfl rfl ?_
            refine Plan.nilCheck rfl rfl rfl ?_
            refine Plan.fieldAddr rfl rfl fldsaw0 rfl ?_
            refine Plan.load (v := .slice _ _ _) rfl rfl agg_api_Item rfl (Sees.one 0 rfl rfl) ?_
            refine Plan.fieldAddr rfl rfl fldCut1 rfl ?_
            refine Plan.load (v := .int _ _) rfl rfl aggI rfl (Sees.one 2 rfl rfl) ?_
            refine Plan.indexN (k) rfl rfl slapiItem sizapiItem rfl rfl rfl rfl (hk) ?_
            refine Plan.loadAgg rfl rfl aggItem sizItem rfl (Sees.rdX hA oA k hk) rfl ?_
            refine Plan.move (v := .int _ _) rfl rfl rfl ?_
            refine Plan.move (v := .int _ _) rfl rfl rfl ?_
            refine Plan.callF [] 0 rfl rfl rfl (.inl rfl) (by simp) (fun w hm => fits_ct _ a b w) ?_   -- tinplate/blank.fits
            rintro v Ln ⟨rfl, rfl⟩
            refine Plan.splitB (fun h61 => ?_) (fun h61 => ?_)
            · skip
              refine Plan.not rfl rfl rfl ?_
              refine Plan.pick (v := .bool _) rfl rfl rfl rfl ?_
              refine Plan.done ?_
              refine HW.cond_false rfl ?_
              refine HW.skip ?_
              refine HW.seq (HW.region_any [16] [(0, .st), (1, .st), (2, .st), (3, .st), (4, .st), (5, .st), (6, .st), (7, .st), (8, .st), (9, .st), (10, .st), (11, .st), (12, .st), (13, .st), (14, .st), (15, .st), (16, .ef)] mix (by kernel_rfl) (fun _ _ _ _ _ h => h) (zeros rfl) ?_)
              refine Plan.move (v := .pointer _) rfl rfl rfl ?_
              refine Plan.nilCheck rfl rfl rfl ?_
              refine Plan.fieldAddr rfl rfl fldsaw2 rfl ?_
              refine Plan.load (v := .int _ _) rfl rfl aggI rfl (Sees.one 0 rfl rfl) ?_
              refine Plan.move (v := .pointer _) rfl rfl rfl ?_
              refine Plan.nilCheck rfl rfl rfl ?_
              refine Plan.fieldAddr rfl rfl fldsaw0 rfl ?_
              refine Plan.load (v := .slice _ _ _) rfl rfl agg_api_Item rfl (Sees.one 0 rfl rfl) ?_
              refine Plan.fieldAddr rfl rfl fldCut1 rfl ?_
              refine Plan.load (v := .int _ _) rfl rfl aggI rfl (Sees.one 2 rfl rfl) ?_
              refine Plan.indexN (k) rfl rfl slapiItem sizapiItem rfl rfl rfl rfl (hk) ?_
              refine Plan.fieldAddr rfl rfl fldItem2 rfl ?_
              refine Plan.load (v := .int _ _) rfl rfl aggI rfl (Sees.nth (Sees.rdX hA oA k hk) 2 rfl) ?_
              refine Plan.arithI rfl rfl rfl rfl rfl (by omega) ?_
              refine Plan.nilCheck rfl rfl rfl ?_
              refine Plan.fieldAddr rfl rfl fldsaw2 rfl ?_
              refine Plan.store (v := .int _ _) 0 rfl rfl (hDs (by decide)) sizI rfl rfl rfl rfl (Nat.le_of_ble_eq_true rfl) (ones_spec rfl) rfl ?_
              refine Plan.done ?_
              refine HW.seq (HW.region_any [10] [(0, .st), (1, .st), (2, .st), (3, .st), (4, .st), (5, .st), (6, .st), (7, .st), (8, .st), (9, .st), (10, .ef)] mix (by kernel_rfl) (fun _ _ _ _ _ h => h) (zeros rfl) ?_)
              refine Plan.move (v := .pointer _) rfl rfl rfl ?_
              refine Plan.nilCheck rfl rfl rfl ?_
              refine Plan.fieldAddr rfl rfl fldsaw3 rfl ?_
              refine Plan.load (v := .slice _ _ _) rfl rfl agg_int rfl (Sees.one 0 rfl rfl) ?_
              refine Plan.fieldAddr rfl rfl fldCut1 rfl ?_
              refine Plan.load (v := .int _ _) rfl rfl aggI rfl (Sees.one 2 rfl rfl) ?_
              refine Plan.indexN (k) rfl rfl slI sizI rfl rfl rfl rfl (hk) ?_
              refine Plan.load (v := .int _ _) rfl rfl aggI rfl (Sees.own 1 encI1 rfl mb rfl k hkm) ?_
              refine Plan.arithI rfl rfl rfl rfl rfl (by omega) ?_
              refine Plan.indexN (k) rfl rfl slI sizI rfl rfl rfl rfl (hk) ?_
              refine Plan.storeOwn (enc := encI) (sz := 1) ((m[k] + 1)) (k) (1) rfl rfl (hDs (by decide)) sizI encI1 encIo rfl rfl rfl rfl rfl (hkm) ?_
              refine Plan.done ?_
              refine HW.seq (HW.region [(0, .st)] rfl rfl ?_)
              refine Plan.assign (v := .bool _) rfl rfl rfl ?_
              refine Plan.done ?_
              exact HW.ret ⟨rfl, _, [sawR l (some ad) c (cutA (some ad0) pc 1 2) r.length (pc - 1) (s + l[k].2.2) sb mb mc, ownI (some mb) mc (m.set k (m[k] + 1))], .tmp rfl .nil, .cons_cons _ (.cons_cons _ (List.nil_sublist _)), ReadR_yes (u := [k]) (by rw [rdP_item, Int.toNat_natCast, hgk, if_pos ⟨by omega, by omega, h61⟩]) htl (by omega) (by simp only [valU, List.map_cons, List.map_nil, List.foldr_cons, List.foldr_nil, hgk, Int.add_zero]) (addU_one hkm).symm⟩
            · skip
              have e : rdP l a b ((1, (k : Int)) :: r) = none := by rw [rdP_item, Int.toNat_natCast, hgk, h61, if_neg (by simp)]
              refine Plan.not rfl rfl rfl ?_
              refine Plan.pick (v := .bool _) rfl rfl rfl rfl ?_
              refine Plan.done ?_
              refine HW.cond_true rfl ?_
              refine HW.seq (HW.region [(0, .st)] rfl rfl ?_)
              refine Plan.assign (v := .bool _) rfl rfl rfl ?_
              refine Plan.done ?_
              exact HW.ret ⟨rfl, _, [], .tmp rfl .nil, List.nil_sublist _, ReadR_no e⟩
      · replace h36 := of_decide_eq_false h36
        refine Plan.assign (v := .bool _) rfl rfl rfl ?_
        refine Plan.done ?_
        refine HW.cond_false rfl ?_
        refine HW.seq (HW.region [(0, .st), (1, .st)] rfl rfl ?_)
        refine Plan.cmp2 rfl rfl rfl rfl rfl (fun h91 => ?_) (fun h91 => ?_)
        · replace h91 := of_decide_eq_true h91
          obtain rfl := h91
          refine Plan.assign (v := .bool _) rfl rfl rfl ?_
          refine Plan.done ?_
          refine HW.cond_true rfl ?_
          refine HW.seq (HW.region [(0, .st), (1, .st), (2, .st), (3, .st), (4, .st), (5, .st), (6, .st), (7, .st), (8, .st), (9, .st), (10, .st), (11, .st), (12, .st), (13, .st), (14, .ef), (15, .st), (16, .st), (17, .st), (18, .st), (19, .st), (20, .st), (21, .st), (22, .st), (23, .ef), (24, .st), (25, .st)] rfl rfl ?_)
          refine Plan.fieldAddr rfl rfl fldCut1 rfl ?_
          refine Plan.load (v := .int _ _) rfl rfl aggI rfl (Sees.one 2 rfl rfl) ?_
          refine Plan.cmp2 rfl rfl rfl rfl rfl (fun h94 => ?_) (fun h94 => ?_)
          · replace h94 := of_decide_eq_true h94
            refine Plan.move (v := .bool _) rfl rfl rfl ?_
            refine Plan.fieldAddr rfl rfl fldCut1 rfl ?_
            refine Plan.load (v := .int _ _) rfl rfl aggI rfl (Sees.one 2 rfl rfl) ?_
            refine Plan.move (v := .int _ _) rfl rfl rfl ?_
            refine Plan.cmp2 rfl rfl rfl rfl rfl (fun h99 => ?_) (fun h99 => ?_)
            · replace h99 := of_decide_eq_true h99
              obtain ⟨k, rfl⟩ := Int.eq_ofNat_of_zero_le (show 0 ≤ x by omega)
              have hs : ((a : Int) - (k : Int)) = ((a - k : Nat) : Int) := by omega
              refine Plan.pick (v := .bool _) rfl rfl rfl rfl ?_
              refine Plan.move (v := .bool _) rfl rfl rfl ?_
              refine Plan.move (v := .pointer _) rfl rfl rfl ?_
              refine Plan.fieldAddr rfl rfl fldCut1 rfl ?_
              refine Plan.load (v := .int _ _) rfl rfl aggI rfl (Sees.one 2 rfl rfl) ?_
              refine Plan.move (v := .int _ _) rfl rfl rfl ?_
              refine Plan.callF [sb, mb] 2 rfl rfl rfl (.inr hDn) (by simp [Res.blk, Res.own]) (fun w hm => ih r (cutA (some ad0) pc 1 2) (pc - 1) s m k b w (by omega) (by omega) hb (by omega) hb2 (hA.memX hm oA) oA (hr0.memX hm hr1) hr1 (by omega) (hm.res (sawR l A c (cutA (some ad0) pc 1 2) r.length (pc - 1) s sb mb mc) (by simp)) (hm.res (ownI (some mb) mc m) (by simp)) hml hne s0 (by omega) (fun y hy => by have := hm0 y hy; omega)) ?_   -- (*tinplate/blank.saw).read
              rintro v Ln ⟨rfl, hL1⟩
              refine Plan.splitB (fun h106 => ?_) (fun h106 => ?_)
              · skip
                obtain ⟨⟨r1, u1⟩, e1⟩ := Option.isSome_iff_exists.1 h106
                obtain ⟨B1, pc1, t1, hc1, rfl⟩ := hL1 r1 u1 e1
                have us1 := rdP_use e1
                have vb1 := valU_bd l (badI_val hl) (by decide) u1
                have w0 := t1.rd _ hr0
                have w1 := t1.off _ hr1
                refine Plan.pick (v := .bool _) rfl rfl rfl rfl ?_
                refine Plan.move (v := .bool _) rfl rfl rfl ?_
                refine Plan.move (v := .pointer _) rfl rfl rfl ?_
                refine Plan.move (v := .int _ _) rfl rfl rfl ?_
                refine Plan.fieldAddr rfl rfl fldCut1 rfl ?_
                refine Plan.load (v := .int _ _) rfl rfl aggI rfl (Sees.one 2 rfl rfl) ?_
                refine Plan.arithI rfl rfl rfl rfl rfl (by omega) ?_
                refine Plan.move (v := .int _ _) rfl rfl rfl ?_
                refine Plan.callF [sb, mb] 2 rfl rfl rfl (.inr hDn) (by simp [Res.blk, Res.own]) (fun w hm => (by rw [hs]; exact ih r1 B1 pc1 (s + valU l u1) (addU m u1) (a - k) b w (by omega) (by omega) hb (by omega) hb2 (hA.memX hm oA) oA (w0.memX hm w1) w1 hc1 (hm.res (sawR l A c B1 r1.length pc1 (s + valU l u1) sb mb mc) (by simp)) (hm.res (ownI (some mb) mc (addU m u1)) (by simp)) (by rw [addU_len]; exact hml) hne (by omega) (by omega) (addU_bd2 (fun y hy => by have := hm0 y hy; omega) (by omega)))) ?_   -- (*tinplate/blank.saw).read
                rintro v Ln ⟨rfl, hL2⟩
                refine Plan.splitB (fun h115 => ?_) (fun h115 => ?_)
                · skip
                  obtain ⟨⟨r2, u2⟩, e2⟩ := Option.isSome_iff_exists.1 h115
                  obtain ⟨B2, pc2, t2, hc2, rfl⟩ := hL2 r2 u2 e2
                  refine Plan.pick (v := .bool _) rfl rfl rfl rfl ?_
                  refine Plan.assign (v := .bool _) rfl rfl rfl ?_
                  refine Plan.done ?_
                  exact HW.ret ⟨rfl, _, [sawR l A c B2 r2.length pc2 (s + valU l u1 + valU l u2) sb mb mc, ownI (some mb) mc (addU (addU m u1) u2)], .tmp rfl .nil, .cons_cons _ (.cons_cons _ (List.nil_sublist _)), ReadR_yes (u := u1 ++ u2) (by rw [rdP_wide, if_pos ⟨by omega, by omega⟩, Int.toNat_natCast, e1]; simp only []; rw [e2]) (htl.trans (t1.trans t2)) hc2 (by rw [valU_app, Int.add_assoc]) (addU_app _ _ _).symm⟩
                · skip
                  have e2 : rdP l (a - k) b r1 = none := by simpa using h115
                  have e : rdP l a b ((2, (k : Int)) :: r) = none := by rw [rdP_wide, if_pos ⟨by omega, by omega⟩, Int.toNat_natCast, e1]; simp only []; rw [e2]
                  refine Plan.pick (v := .bool _) rfl rfl rfl rfl ?_
                  refine Plan.assign (v := .bool _) rfl rfl rfl ?_
                  refine Plan.done ?_
                  exact HW.ret ⟨rfl, _, [], .tmp rfl .nil, List.nil_sublist _, ReadR_no e⟩
              · skip
                have e1 : rdP l k b r = none := by simpa using h106
                have e : rdP l a b ((2, (k : Int)) :: r) = none := by rw [rdP_wide, if_pos ⟨by omega, by omega⟩, Int.toNat_natCast, e1]
                refine Plan.pick (v := .bool _) rfl rfl rfl rfl ?_
                refine Plan.move (v := .bool _) rfl rfl rfl ?_
                refine Plan.no rfl rfl ?_
                refine Plan.no rfl rfl ?_
                refine Plan.no rfl rfl ?_
                refine Plan.no rfl rfl ?_
                refine Plan.no rfl rfl ?_
                refine Plan.no rfl rfl ?_
                refine Plan.noE rfl rfl ?_
                refine Plan.pick (v := .bool _) rfl rfl rfl rfl ?_
                refine Plan.assign (v := .bool _) rfl rfl rfl ?_
                refine Plan.done ?_
                exact HW.ret ⟨rfl, _, [], .tmp rfl .nil, List.nil_sublist _, ReadR_no e⟩
            · replace h99 := of_decide_eq_false h99
              have e : rdP l a b ((2, x) :: r) = none := by rw [rdP_wide, if_neg (by omega)]
              refine Plan.pick (v := .bool _) rfl rfl rfl rfl ?_
              refine Plan.move (v := .bool _) rfl rfl rfl ?_
              refine Plan.no rfl rfl ?_
              refine Plan.no rfl rfl ?_
              refine Plan.no rfl rfl ?_
              refine Plan.no rfl rfl ?_
              refine Plan.noE rfl rfl ?_
              refine Plan.pick (v := .bool _) rfl rfl rfl rfl ?_
              refine Plan.move (v := .bool _) rfl rfl rfl ?_
              refine Plan.no rfl rfl ?_
              refine Plan.no rfl rfl ?_
              refine Plan.no rfl rfl ?_
              refine Plan.no rfl rfl ?_
              refine Plan.no rfl rfl ?_
              refine Plan.no rfl rfl ?_
              refine Plan.noE rfl rfl ?_
              refine Plan.pick (v := .bool _) rfl rfl rfl rfl ?_
              refine Plan.assign (v := .bool _) rfl rfl rfl ?_
              refine Plan.done ?_
              exact HW.ret ⟨rfl, _, [], .tmp rfl .nil, List.nil_sublist _, ReadR_no e⟩
          · replace h94 := of_decide_eq_false h94
            have e : rdP l a b ((2, x) :: r) = none := by rw [rdP_wide, if_neg (by omega)]
            refine Plan.move (v := .bool _) rfl rfl rfl ?_
            refine Plan.no rfl rfl ?_
            refine Plan.no rfl rfl ?_
            refine Plan.no rfl rfl ?_
            refine Plan.no rfl rfl ?_
            refine Plan.pick (v := .bool _) rfl rfl rfl rfl ?_
            refine Plan.move (v := .bool _) rfl rfl rfl ?_
            refine Plan.no rfl rfl ?_
            refine Plan.no rfl rfl ?_
            refine Plan.no rfl rfl ?_
            refine Plan.no rfl rfl ?_
            refine Plan.noE rfl rfl ?_
            refine Plan.pick (v := .bool _) rfl rfl rfl rfl ?_
            refine Plan.move (v := .bool _) rfl rfl rfl ?_
            refine Plan.no rfl rfl ?_
            refine Plan.no rfl rfl ?_
            refine Plan.no rfl rfl ?_
            refine Plan.no rfl rfl ?_
            refine Plan.no rfl rfl ?_
            refine Plan.no rfl rfl ?_
            refine Plan.noE rfl rfl ?_
            refine Plan.pick (v := .bool _) rfl rfl rfl rfl ?_
            refine Plan.assign (v := .bool _) rfl rfl rfl ?_
            refine Plan.done ?_
            exact HW.ret ⟨rfl, _, [], .tmp rfl .nil, List.nil_sublist _, ReadR_no e⟩
        · replace h91 := of_decide_eq_false h91
          refine Plan.assign (v := .bool _) rfl rfl rfl ?_
          refine Plan.done ?_
          refine HW.cond_false rfl ?_
          refine HW.seq (HW.region [(0, .st), (1, .st)] rfl rfl ?_)
          refine Plan.cmp2 rfl rfl rfl rfl rfl (fun h118 => ?_) (fun h118 => ?_)
          · replace h118 := of_decide_eq_true h118
            obtain rfl := h118
            refine Plan.assign (v := .bool _) rfl rfl rfl ?_
            refine Plan.done ?_
            refine HW.cond_true rfl ?_
            refine HW.seq (HW.region [(0, .st), (1, .st), (2, .st), (3, .st), (4, .st), (5, .st), (6, .st), (7, .st), (8, .st), (9, .st), (10, .st), (11, .st), (12, .st), (13, .st), (14, .ef), (15, .st), (16, .st), (17, .st), (18, .st), (19, .st), (20, .st), (21, .st), (22, .st), (23, .ef), (24, .st), (25, .st)] rfl rfl ?_)
            refine Plan.fieldAddr rfl rfl fldCut1 rfl ?_
            refine Plan.load (v := .int _ _) rfl rfl aggI rfl (Sees.one 2 rfl rfl) ?_
            refine Plan.cmp2 rfl rfl rfl rfl rfl (fun h121 => ?_) (fun h121 => ?_)
            · replace h121 := of_decide_eq_true h121
              refine Plan.move (v := .bool _) rfl rfl rfl ?_
              refine Plan.fieldAddr rfl rfl fldCut1 rfl ?_
              refine Plan.load (v := .int _ _) rfl rfl aggI rfl (Sees.one 2 rfl rfl) ?_
              refine Plan.move (v := .int _ _) rfl rfl rfl ?_
              refine Plan.cmp2 rfl rfl rfl rfl rfl (fun h126 => ?_) (fun h126 => ?_)
              · replace h126 := of_decide_eq_true h126
                obtain ⟨k, rfl⟩ := Int.eq_ofNat_of_zero_le (show 0 ≤ x by omega)
                have hs : ((b : Int) - (k : Int)) = ((b - k : Nat) : Int) := by omega
                refine Plan.pick (v := .bool _) rfl rfl rfl rfl ?_
                refine Plan.move (v := .bool _) rfl rfl rfl ?_
                refine Plan.move (v := .pointer _) rfl rfl rfl ?_
                refine Plan.move (v := .int _ _) rfl rfl rfl ?_
                refine Plan.fieldAddr rfl rfl fldCut1 rfl ?_
                refine Plan.load (v := .int _ _) rfl rfl aggI rfl (Sees.one 2 rfl rfl) ?_
                refine Plan.callF [sb, mb] 2 rfl rfl rfl (.inr hDn) (by simp [Res.blk, Res.own]) (fun w hm => ih r (cutA (some ad0) pc 1 2) (pc - 1) s m a k w (by omega) ha (by omega) ha2 (by omega) (hA.memX hm oA) oA (hr0.memX hm hr1) hr1 (by omega) (hm.res (sawR l A c (cutA (some ad0) pc 1 2) r.length (pc - 1) s sb mb mc) (by simp)) (hm.res (ownI (some mb) mc m) (by simp)) hml hne s0 (by omega) (fun y hy => by have := hm0 y hy; omega)) ?_   -- (*tinplate/blank.saw).read
                rintro v Ln ⟨rfl, hL1⟩
                refine Plan.splitB (fun h133 => ?_) (fun h133 => ?_)
                · skip
                  obtain ⟨⟨r1, u1⟩, e1⟩ := Option.isSome_iff_exists.1 h133
                  obtain ⟨B1, pc1, t1, hc1, rfl⟩ := hL1 r1 u1 e1
                  have us1 := rdP_use e1
                  have vb1 := valU_bd l (badI_val hl) (by decide) u1
                  have w0 := t1.rd _ hr0
                  have w1 := t1.off _ hr1
                  refine Plan.pick (v := .bool _) rfl rfl rfl rfl ?_
                  refine Plan.move (v := .bool _) rfl rfl rfl ?_
                  refine Plan.move (v := .pointer _) rfl rfl rfl ?_
                  refine Plan.move (v := .int _ _) rfl rfl rfl ?_
                  refine Plan.move (v := .int _ _) rfl rfl rfl ?_
                  refine Plan.fieldAddr rfl rfl fldCut1 rfl ?_
                  refine Plan.load (v := .int _ _) rfl rfl aggI rfl (Sees.one 2 rfl rfl) ?_
                  refine Plan.arithI rfl rfl rfl rfl rfl (by omega) ?_
                  refine Plan.callF [sb, mb] 2 rfl rfl rfl (.inr hDn) (by simp [Res.blk, Res.own]) (fun w hm => (by rw [hs]; exact ih r1 B1 pc1 (s + valU l u1) (addU m u1) a (b - k) w (by omega) ha (by omega) ha2 (by omega) (hA.memX hm oA) oA (w0.memX hm w1) w1 hc1 (hm.res (sawR l A c B1 r1.length pc1 (s + valU l u1) sb mb mc) (by simp)) (hm.res (ownI (some mb) mc (addU m u1)) (by simp)) (by rw [addU_len]; exact hml) hne (by omega) (by omega) (addU_bd2 (fun y hy => by have := hm0 y hy; omega) (by omega)))) ?_   -- (*tinplate/blank.saw).read
                  rintro v Ln ⟨rfl, hL2⟩
                  refine Plan.splitB (fun h142 => ?_) (fun h142 => ?_)
                  · skip
                    obtain ⟨⟨r2, u2⟩, e2⟩ := Option.isSome_iff_exists.1 h142
                    obtain ⟨B2, pc2, t2, hc2, rfl⟩ := hL2 r2 u2 e2
                    refine Plan.pick (v := .bool _) rfl rfl rfl rfl ?_
                    refine Plan.assign (v := .bool _) rfl rfl rfl ?_
                    refine Plan.done ?_
                    exact HW.ret ⟨rfl, _, [sawR l A c B2 r2.length pc2 (s + valU l u1 + valU l u2) sb mb mc, ownI (some mb) mc (addU (addU m u1) u2)], .tmp rfl .nil, .cons_cons _ (.cons_cons _ (List.nil_sublist _)), ReadR_yes (u := u1 ++ u2) (by rw [rdP_high, if_pos ⟨by omega, by omega⟩, Int.toNat_natCast, e1]; simp only []; rw [e2]) (htl.trans (t1.trans t2)) hc2 (by rw [valU_app, Int.add_assoc]) (addU_app _ _ _).symm⟩
                  · skip
                    have e2 : rdP l a (b - k) r1 = none := by simpa using h142
                    have e : rdP l a b ((3, (k : Int)) :: r) = none := by rw [rdP_high, if_pos ⟨by omega, by omega⟩, Int.toNat_natCast, e1]; simp only []; rw [e2]
                    refine Plan.pick (v := .bool _) rfl rfl rfl rfl ?_
                    refine Plan.assign (v := .bool _) rfl rfl rfl ?_
                    refine Plan.done ?_
                    exact HW.ret ⟨rfl, _, [], .tmp rfl .nil, List.nil_sublist _, ReadR_no e⟩
                · skip
                  have e1 : rdP l a k r = none := by simpa using h133
                  have e : rdP l a b ((3, (k : Int)) :: r) = none := by rw [rdP_high, if_pos ⟨by omega, by omega⟩, Int.toNat_natCast, e1]
                  refine Plan.pick (v := .bool _) rfl rfl rfl rfl ?_
                  refine Plan.move (v := .bool _) rfl rfl rfl ?_
                  refine Plan.no rfl rfl ?_
                  refine Plan.no rfl rfl ?_
                  refine Plan.no rfl rfl ?_
                  refine Plan.no rfl rfl ?_
                  refine Plan.no rfl rfl ?_
                  refine Plan.no rfl rfl ?_
                  refine Plan.noE rfl rfl ?_
                  refine Plan.pick (v := .bool _) rfl rfl rfl rfl ?_
                  refine Plan.assign (v := .bool _) rfl rfl rfl ?_
                  refine Plan.done ?_
                  exact HW.ret ⟨rfl, _, [], .tmp rfl .nil, List.nil_sublist _, ReadR_no e⟩
              · replace h126 := of_decide_eq_false h126
                have e : rdP l a b ((3, x) :: r) = none := by rw [rdP_high, if_neg (by omega)]
                refine Plan.pick (v := .bool _) rfl rfl rfl rfl ?_
                refine Plan.move (v := .bool _) rfl rfl rfl ?_
                refine Plan.no rfl rfl ?_
                refine Plan.no rfl rfl ?_
                refine Plan.no rfl rfl ?_
                refine Plan.no rfl rfl ?_
                refine Plan.noE rfl rfl ?_
                refine Plan.pick (v := .bool _) rfl rfl rfl rfl ?_
                refine Plan.move (v := .bool _) rfl rfl rfl ?_
                refine Plan.no rfl rfl ?_
                refine Plan.no rfl rfl ?_
                refine Plan.no rfl rfl ?_
                refine Plan.no rfl rfl ?_
                refine Plan.no rfl rfl ?_
                refine Plan.no rfl rfl ?_
                refine Plan.noE rfl rfl ?_
                refine Plan.pick (v := .bool _) rfl rfl rfl rfl ?_
                refine Plan.assign (v := .bool _) rfl rfl rfl ?_
                refine Plan.done ?_
                exact HW.ret ⟨rfl, _, [], .tmp rfl .nil, List.nil_sublist _, ReadR_no e⟩
            · replace h121 := of_decide_eq_false h121
              have e : rdP l a b ((3, x) :: r) = none := by rw [rdP_high, if_neg (by omega)]
              refine Plan.move (v := .bool _) rfl rfl rfl ?_
              refine Plan.no rfl rfl ?_
              refine Plan.no rfl rfl ?_
              refine Plan.no rfl rfl ?_
              refine Plan.no rfl rfl ?_
              refine Plan.pick (v := .bool _) rfl rfl rfl rfl ?_
              refine Plan.move (v := .bool _) rfl rfl rfl ?_
              refine Plan.no rfl rfl ?_
              refine Plan.no rfl rfl ?_
              refine Plan.no rfl rfl ?_
              refine Plan.no rfl rfl ?_
              refine Plan.noE rfl rfl ?_
              refine Plan.pick (v := .bool _) rfl rfl rfl rfl ?_
              refine Plan.move (v := .bool _) rfl rfl rfl ?_
              refine Plan.no rfl rfl ?_
              refine Plan.no rfl rfl ?_
              refine Plan.no rfl rfl ?_
              refine Plan.no rfl rfl ?_
              refine Plan.no rfl rfl ?_
              refine Plan.no rfl rfl ?_
              refine Plan.noE rfl rfl ?_
              refine Plan.pick (v := .bool _) rfl rfl rfl rfl ?_
              refine Plan.assign (v := .bool _) rfl rfl rfl ?_
              refine Plan.done ?_
              exact HW.ret ⟨rfl, _, [], .tmp rfl .nil, List.nil_sublist _, ReadR_no e⟩
          · replace h118 := of_decide_eq_false h118
            have e : rdP l a b ((t, x) :: r) = none := rdP_other l a b t x r h31 h36 h91 h118
            refine Plan.assign (v := .bool _) rfl rfl rfl ?_
            refine Plan.done ?_
            refine HW.cond_false rfl ?_
            refine HW.skip ?_
            refine HW.seq (HW.region [(0, .st)] rfl rfl ?_)
            refine Plan.assign (v := .bool _) rfl rfl rfl ?_
            refine Plan.done ?_
            exact HW.ret ⟨rfl, _, [], .tmp rfl .nil, List.nil_sublist _, ReadR_no e⟩

theorem read_ct (l : List It) (A : Option Addr) (c sb mb mc : Nat) (hl : l.any badI = false) (hlen : l.length ≤ 10) : ∀ N, ReadAt l A c sb mb mc N
  | 0 => fun p B pc s m a b w h => absurd h (Nat.not_lt_zero _)
  | N + 1 => read_step l A c sb mb mc N hl hlen (read_ct l A c sb mb mc hl hlen N)

end Go.Proofs.Ytjmklbkcpjmcaaa.V
