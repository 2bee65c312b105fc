/-
  Package blank: Worth; BlankPlan, its contract.
-/
import Derived.Test.YtjmklbkcpjmcaaaBd
import Derived.Test.YtjmklbkcpjmcaaaBa
namespace Go.Proofs.Ytjmklbkcpjmcaaa.V
open Go Go.RowKit Go.Proofs.Ytjmklbkcpjmcaaa.H Go.Proofs.Ytjmklbkcpjmcaaa.LL
set_option linter.unusedVariables false
set_option linter.unusedSimpArgs false

/-- what a plan that is read whole cuts -/
def outP (l : List It) (a b : Nat) (p : List Ct2) : Option (List Nat) := match rdP l a b p with
  | some ([], u) => some u
  | _ => none
theorem outP_some {l : List It} {a b : Nat} {p : List Ct2} {u : List Nat} : outP l a b p = some u ↔ rdP l a b p = some ([], u) := by
  unfold outP
  constructor
  · intro h
    split at h
    · next h2 => simp only [Option.some.injEq] at h; subst h; exact h2
    · cases h
  · intro h
    rw [h]
theorem outP_none {l : List It} {a b : Nat} {p : List Ct2} (h : outP l a b p = none) {u : List Nat} : rdP l a b p ≠ some ([], u) := fun e => by
  rw [outP_some.2 e] at h
  cases h

theorem Mem.new {w0 w : World} {L : List Res} {r : Res} {b : Nat} (hm : Mem w0 [] L w) (hr : r ∈ L) (hb : b ∈ r.foot) : w0.heap.size ≤ b := (hm.foot r hr b hb).2.resolve_right (by simp)

theorem WorthB_no (x y : Int) (A : Option Addr) (l : List It) (n c : Nat) (B : Option Addr) (p : List Ct2) (pn pc : Nat) (w : World) (hA : Rd encT 3 w A l) (hn : n = l.length) (hlen : l.length ≤ 1000000) (hs : sheetF x y l ≠ 0) :
    Ct P 23 #[int x, int y, .slice A n c, .slice B pn pc] w [] (fun r L => r = .tuple #[int 0, .slice none 0 0, .bool false, int (sheetF x y l)] ∧ L = []) := by
  subst hn
  refine Ct.of_body (rs := [.tmp 8, .tmp 9, .tmp 10, .tmp 11]) (N := 52) (L := []) Try.func23 rfl rfl rfl (by kernel_rfl) rfl (Mem.refl w) ?_
  refine HW.seq (HW.region [(0, .st), (1, .st), (2, .st), (3, .st)] rfl rfl ?_)
  refine Plan.assign (v := .int _ _) rfl rfl rfl ?_
  refine Plan.assign (v := .slice _ _ _) rfl rfl rfl ?_
  refine Plan.assign (v := .bool _) rfl rfl rfl ?_
  refine Plan.assign (v := .int _ _) rfl rfl rfl ?_
  refine Plan.done ?_
  refine HW.seq ?_
  refine HW.seq (HW.region [(0, .st), (1, .st), (2, .st), (3, .ef), (4, .st)] rfl rfl ?_)
  refine Plan.move (v := .int _ _) rfl rfl rfl ?_
  refine Plan.move (v := .int _ _) rfl rfl rfl ?_
  refine Plan.move (v := .slice _ _ _) rfl rfl rfl ?_
  refine Plan.callF [] 0 rfl rfl rfl (.inl rfl) (by simp) (fun w hm => sheet_ct x y A l _ c w (hA.mem hm) rfl (by omega)) ?_   -- tinplate/blank.sheet
  rintro v Ln ⟨rfl, rfl⟩
  refine Plan.assign (v := .int _ _) rfl rfl rfl ?_
  refine Plan.done ?_
  refine HW.seq (HW.region [(0, .st), (1, .st)] rfl rfl ?_)
  refine Plan.move (v := .int _ _) rfl rfl rfl ?_
  refine Plan.cmp2 rfl rfl rfl rfl rfl (fun h19 => ?_) (fun h19 => ?_)
  · replace h19 := ne_of_t h19
    refine Plan.done ?_
    refine HW.cond_true rfl ?_
    refine HW.seq (HW.region [(0, .st), (1, .st), (2, .st), (3, .st), (4, .st)] rfl rfl ?_)
    refine Plan.move (v := .int _ _) rfl rfl rfl ?_
    refine Plan.assign (v := .int _ _) rfl rfl rfl ?_
    refine Plan.assign (v := .slice _ _ _) rfl rfl rfl ?_
    refine Plan.assign (v := .bool _) rfl rfl rfl ?_
    refine Plan.assign (v := .int _ _) rfl rfl rfl ?_
    refine Plan.done ?_
    exact HW.ret ⟨rfl, _, [], .tmp rfl (.tmp rfl (.tmp rfl (.tmp rfl .nil))), List.nil_sublist _, rfl, rfl⟩
  · replace h19 := eq_of_f h19
    exact absurd h19 hs

theorem WorthB_far (x y : Int) (A : Option Addr) (l : List It) (n c : Nat) (B : Option Addr) (pn pc : Nat) (w : World) (hA : Rd encT 3 w A l) (hn : n = l.length) (hlen : l.length ≤ 1000000) (hs : sheetF x y l = 0) (hp : 20001 < pn) :
    Ct P 23 #[int x, int y, .slice A n c, .slice B pn pc] w [] (fun r L => r = .tuple #[int 0, .slice none 0 0, .bool false, int 3] ∧ L = []) := by
  subst hn
  refine Ct.of_body (rs := [.tmp 8, .tmp 9, .tmp 10, .tmp 11]) (N := 52) (L := []) Try.func23 rfl rfl rfl (by kernel_rfl) rfl (Mem.refl w) ?_
  refine HW.seq (HW.region [(0, .st), (1, .st), (2, .st), (3, .st)] rfl rfl ?_)
  refine Plan.assign (v := .int _ _) rfl rfl rfl ?_
  refine Plan.assign (v := .slice _ _ _) rfl rfl rfl ?_
  refine Plan.assign (v := .bool _) rfl rfl rfl ?_
  refine Plan.assign (v := .int _ _) rfl rfl rfl ?_
  refine Plan.done ?_
  refine HW.seq ?_
  refine HW.seq (HW.region [(0, .st), (1, .st), (2, .st), (3, .ef), (4, .st)] rfl rfl ?_)
  refine Plan.move (v := .int _ _) rfl rfl rfl ?_
  refine Plan.move (v := .int _ _) rfl rfl rfl ?_
  refine Plan.move (v := .slice _ _ _) rfl rfl rfl ?_
  refine Plan.callF [] 0 rfl rfl rfl (.inl rfl) (by simp) (fun w hm => sheet_ct x y A l _ c w (hA.mem hm) rfl (by omega)) ?_   -- tinplate/blank.sheet
  rintro v Ln ⟨rfl, rfl⟩
  refine Plan.assign (v := .int _ _) rfl rfl rfl ?_
  refine Plan.done ?_
  refine HW.seq (HW.region [(0, .st), (1, .st)] rfl rfl ?_)
  refine Plan.move (v := .int _ _) rfl rfl rfl ?_
  refine Plan.cmp2 rfl rfl rfl rfl rfl (fun h19 => ?_) (fun h19 => ?_)
  · replace h19 := ne_of_t h19
    exact absurd hs h19
  · replace h19 := eq_of_f h19
    refine Plan.done ?_
    refine HW.cond_false rfl ?_
    refine HW.skip ?_
    refine HW.seq ?_
    refine HW.seq (HW.region [(0, .st), (1, .st), (2, .st)] rfl rfl ?_)
    refine Plan.move (v := .slice _ _ _) rfl rfl rfl ?_
    refine Plan.len rfl rfl slapiCut rfl ?_
    refine Plan.cmp2 rfl rfl rfl rfl rfl (fun h23 => ?_) (fun h23 => ?_)
    · replace h23 := of_decide_eq_true h23
      refine Plan.done ?_
      refine HW.cond_true rfl ?_
      refine HW.seq (HW.region [(0, .st), (1, .st), (2, .st), (3, .st)] rfl rfl ?_)
      refine Plan.assign (v := .int _ _) rfl rfl rfl ?_
      refine Plan.assign (v := .slice _ _ _) rfl rfl rfl ?_
      refine Plan.assign (v := .bool _) rfl rfl rfl ?_
      refine Plan.assign (v := .int _ _) rfl rfl rfl ?_
      refine Plan.done ?_
      exact HW.ret ⟨rfl, _, [], .tmp rfl (.tmp rfl (.tmp rfl (.tmp rfl .nil))), List.nil_sublist _, rfl, rfl⟩
    · replace h23 := of_decide_eq_false h23
      omega

theorem read_call {w0 w : World} {A B : Option Addr} {l : List It} {p : List Ct2} {c pc a b sb mb : Nat} (hA : Rd encT 3 w0 A l) (hB : Rd enc 2 w0 B p) (hpc : p.length ≤ pc) (hp : p.length ≤ 20001) (ha : 0 < a) (hb : 0 < b) (ha2 : a ≤ 100) (hb2 : b ≤ 100) (hl : l.any badI = false) (hlen : l.length ≤ 10)
    (hm : Mem w0 [] [sawR l A c B p.length pc 0 sb mb l.length, ownI (some mb) l.length (List.replicate l.length 0)] w) :
    Ct P 53 #[.pointer (some ⟨sb, 0, none⟩), int a, int b] w [sb, mb] (ReadR l A c sb mb l.length p B 0 (List.replicate l.length 0) a b) := by
  have hd := (List.pairwise_cons.1 hm.sep).1 (ownI (some mb) l.length (List.replicate l.length 0)) (by simp) sb (by simp [Res.blk])
  have hne : sb ≠ mb := fun e => hd (by simp [Res.own, e])
  have hX : ∀ b ∈ [sb, mb], w0.heap.size ≤ b := fun x hx => by
    rcases List.mem_cons.1 hx with rfl | hx
    · exact Mem.new hm (r := sawR l A c B p.length pc 0 x mb l.length) (by simp) (by simp [Res.blk])
    · obtain rfl := List.mem_singleton.1 hx
      exact Mem.new hm (r := ownI (some x) l.length (List.replicate l.length 0)) (by simp) (by simp [Res.own])
  exact read_ct l A c sb mb l.length hl hlen (p.length + 1) p B pc 0 (List.replicate l.length 0) a b w (by omega) ha hb ha2 hb2 (hA.mem hm) (hA.off (fun _ => by simp) hX) (hB.mem hm) (hB.off (fun _ => by simp) hX) hpc
    (hm.res _ (by simp)) (hm.res (ownI (some mb) l.length (List.replicate l.length 0)) (by simp)) (by simp) hne (Int.le_refl _) (by omega) (fun y hy => by rw [List.eq_of_mem_replicate hy]; omega)

theorem WorthB_bad (A : Option Addr) (l : List It) (n c : Nat) (B : Option Addr) (p : List Ct2) (pn pc a b : Nat) (w : World) (hA : Rd encT 3 w A l) (hn : n = l.length) (hB : Rd enc 2 w B p) (hpn : pn = p.length) (hpc : p.length ≤ pc) (hp : p.length ≤ 20001)
    (ha : 0 < a) (hb : 0 < b) (ha2 : a ≤ 100) (hb2 : b ≤ 100) (hlen : l.length ≤ 10) (hl : l.any badI = false) (ho : outP l a b p = none) :
    Ct P 23 #[int a, int b, .slice A n c, .slice B pn pc] w [] (fun r L => r = .tuple #[int 0, .slice none 0 0, .bool false, int 0] ∧ L = []) := by
  subst hn hpn
  have hs : sheetF (a : Int) (b : Int) l = 0 := by rw [sheetF, if_neg (by omega), if_neg (by omega), if_neg (by rw [hl]; decide)]
  refine Ct.of_body (rs := [.tmp 8, .tmp 9, .tmp 10, .tmp 11]) (N := 52) (L := []) Try.func23 rfl rfl rfl (by kernel_rfl) rfl (Mem.refl w) ?_
  refine HW.seq (HW.region [(0, .st), (1, .st), (2, .st), (3, .st)] rfl rfl ?_)
  refine Plan.assign (v := .int _ _) rfl rfl rfl ?_
  refine Plan.assign (v := .slice _ _ _) rfl rfl rfl ?_
  refine Plan.assign (v := .bool _) rfl rfl rfl ?_
  refine Plan.assign (v := .int _ _) rfl rfl rfl ?_
  refine Plan.done ?_
  refine HW.seq ?_
  refine HW.seq (HW.region [(0, .st), (1, .st), (2, .st), (3, .ef), (4, .st)] rfl rfl ?_)
  refine Plan.move (v := .int _ _) rfl rfl rfl ?_
  refine Plan.move (v := .int _ _) rfl rfl rfl ?_
  refine Plan.move (v := .slice _ _ _) rfl rfl rfl ?_
  refine Plan.callF [] 0 rfl rfl rfl (.inl rfl) (by simp) (fun w hm => sheet_ct a b A l _ c w (hA.mem hm) rfl (by omega)) ?_   -- tinplate/blank.sheet
  rintro v Ln ⟨rfl, rfl⟩
  refine Plan.assign (v := .int _ _) rfl rfl rfl ?_
  refine Plan.done ?_
  refine HW.seq (HW.region [(0, .st), (1, .st)] rfl rfl ?_)
  refine Plan.move (v := .int _ _) rfl rfl rfl ?_
  refine Plan.cmp2 rfl rfl rfl rfl rfl (fun h19 => ?_) (fun h19 => ?_)
  · replace h19 := ne_of_t h19
    exact absurd hs h19
  · replace h19 := eq_of_f h19
    refine Plan.done ?_
    refine HW.cond_false rfl ?_
    refine HW.skip ?_
    refine HW.seq ?_
    refine HW.seq (HW.region [(0, .st), (1, .st), (2, .st)] rfl rfl ?_)
    refine Plan.move (v := .slice _ _ _) rfl rfl rfl ?_
    refine Plan.len rfl rfl slapiCut rfl ?_
    refine Plan.cmp2 rfl rfl rfl rfl rfl (fun h23 => ?_) (fun h23 => ?_)
    · replace h23 := of_decide_eq_true h23
      omega
    · replace h23 := of_decide_eq_false h23
      refine Plan.done ?_
      refine HW.cond_false rfl ?_
      refine HW.skip ?_
      refine HW.seq (HW.region [(0, .st), (1, .st), (2, .st), (3, .st), (4, .ef), (5, .st), (6, .ef), (7, .st)] rfl rfl ?_)
      refine Plan.move (v := .slice _ _ _) rfl rfl rfl ?_
      refine Plan.move (v := .slice _ _ _) rfl rfl rfl ?_
      refine Plan.move (v := .slice _ _ _) rfl rfl rfl ?_
      refine Plan.len rfl rfl slapiItem rfl ?_
      refine Plan.makeOwn (enc := encI) (sz := 1) 0 (l.length) rfl rfl slI infI rfl (by decide) rfl rfl rfl (by omega) (by omega) fun b28 => ?_
      refine Plan.build rfl rfl rfl (fun w => bldsaw ..) ?_
      refine Plan.boxA rfl rfl rfl fun b30 => ?_
      refine Plan.assign (v := .pointer _) rfl rfl rfl ?_
      refine Plan.done ?_
      refine HW.seq ?_
      refine HW.seq (HW.region [(0, .st), (1, .st), (2, .st), (3, .ef), (4, .st), (5, .st), (6, .st), (7, .st), (8, .st), (9, .st), (10, .st), (11, .st), (12, .st)] rfl rfl ?_)
      refine Plan.move (v := .pointer _) rfl rfl rfl ?_
      refine Plan.move (v := .int _ _) rfl rfl rfl ?_
      refine Plan.move (v := .int _ _) rfl rfl rfl ?_
      refine Plan.callF [b30, b28] 2 rfl rfl rfl (.inr hDn) (by simp [Res.blk, Res.own]) (fun w hm => read_call hA hB hpc hp ha hb ha2 hb2 hl hlen hm) ?_   -- (*tinplate/blank.saw).read
      rintro v Ln ⟨rfl, hL1⟩
      refine Plan.splitB (fun h34 => ?_) (fun h34 => ?_)
      · skip
        obtain ⟨⟨p1, u⟩, e1⟩ := Option.isSome_iff_exists.1 h34
        obtain ⟨B1, pc1, t1, hc1, rfl⟩ := hL1 p1 u e1
        refine Plan.not rfl rfl rfl ?_
        refine Plan.move (v := .bool _) rfl rfl rfl ?_
        refine Plan.move (v := .pointer _) rfl rfl rfl ?_
        refine Plan.nilCheck rfl rfl rfl ?_
        refine Plan.fieldAddr rfl rfl fldsaw1 rfl ?_
        refine Plan.load (v := .slice _ _ _) rfl rfl agg_api_Cut rfl (Sees.one 0 rfl rfl) ?_
        refine Plan.len rfl rfl slapiCut rfl ?_
        refine Plan.cmp2 rfl rfl rfl rfl rfl (fun h42 => ?_) (fun h42 => ?_)
        · replace h42 := of_decide_eq_true h42
          refine Plan.pick (v := .bool _) rfl rfl rfl rfl ?_
          refine Plan.done ?_
          refine HW.cond_true rfl ?_
          refine HW.seq (HW.region [(0, .st), (1, .st), (2, .st), (3, .st)] rfl rfl ?_)
          refine Plan.assign (v := .int _ _) rfl rfl rfl ?_
          refine Plan.assign (v := .slice _ _ _) rfl rfl rfl ?_
          refine Plan.assign (v := .bool _) rfl rfl rfl ?_
          refine Plan.assign (v := .int _ _) rfl rfl rfl ?_
          refine Plan.done ?_
          exact HW.ret ⟨rfl, _, [], .tmp rfl (.tmp rfl (.tmp rfl (.tmp rfl .nil))), List.nil_sublist _, rfl, rfl⟩
        · replace h42 := of_decide_eq_false h42
          exact absurd (by rw [List.eq_nil_of_length_eq_zero (show p1.length = 0 by omega)] at e1; exact e1) (outP_none ho (u := u))
      · skip
        refine Plan.not rfl rfl rfl ?_
        refine Plan.move (v := .bool _) rfl rfl rfl ?_
        refine Plan.no rfl rfl ?_
        refine Plan.no rfl rfl ?_
        refine Plan.no rfl rfl ?_
        refine Plan.no rfl rfl ?_
        refine Plan.no rfl rfl ?_
        refine Plan.no rfl rfl ?_
        refine Plan.pick (v := .bool _) rfl rfl rfl rfl ?_
        refine Plan.done ?_
        refine HW.cond_true rfl ?_
        refine HW.seq (HW.region [(0, .st), (1, .st), (2, .st), (3, .st)] rfl rfl ?_)
        refine Plan.assign (v := .int _ _) rfl rfl rfl ?_
        refine Plan.assign (v := .slice _ _ _) rfl rfl rfl ?_
        refine Plan.assign (v := .bool _) rfl rfl rfl ?_
        refine Plan.assign (v := .int _ _) rfl rfl rfl ?_
        refine Plan.done ?_
        exact HW.ret ⟨rfl, _, [], .tmp rfl (.tmp rfl (.tmp rfl (.tmp rfl .nil))), List.nil_sublist _, rfl, rfl⟩

theorem WorthB_ok (A : Option Addr) (l : List It) (n c : Nat) (B : Option Addr) (p : List Ct2) (pn pc a b : Nat) (u : List Nat) (w : World) (hA : Rd encT 3 w A l) (hn : n = l.length) (hB : Rd enc 2 w B p) (hpn : pn = p.length) (hpc : p.length ≤ pc) (hp : p.length ≤ 20001)
    (ha : 0 < a) (hb : 0 < b) (ha2 : a ≤ 100) (hb2 : b ≤ 100) (hlen : l.length ≤ 10) (hl : l.any badI = false) (ho : outP l a b p = some u) :
    Ct P 23 #[int a, int b, .slice A n c, .slice B pn pc] w [] (fun r L => ∃ mb, r = .tuple #[int (valU l u), slv (some mb) l.length l.length, .bool true, int 0] ∧ L = [ownI (some mb) l.length (addU (List.replicate l.length 0) u)]) := by
  subst hn hpn
  have hs : sheetF (a : Int) (b : Int) l = 0 := by rw [sheetF, if_neg (by omega), if_neg (by omega), if_neg (by rw [hl]; decide)]
  have he := outP_some.1 ho
  refine Ct.of_body (rs := [.tmp 8, .tmp 9, .tmp 10, .tmp 11]) (N := 52) (L := []) Try.func23 rfl rfl rfl (by kernel_rfl) rfl (Mem.refl w) ?_
  refine HW.seq (HW.region [(0, .st), (1, .st), (2, .st), (3, .st)] rfl rfl ?_)
  refine Plan.assign (v := .int _ _) rfl rfl rfl ?_
  refine Plan.assign (v := .slice _ _ _) rfl rfl rfl ?_
  refine Plan.assign (v := .bool _) rfl rfl rfl ?_
  refine Plan.assign (v := .int _ _) rfl rfl rfl ?_
  refine Plan.done ?_
  refine HW.seq ?_
  refine HW.seq (HW.region [(0, .st), (1, .st), (2, .st), (3, .ef), (4, .st)] rfl rfl ?_)
  refine Plan.move (v := .int _ _) rfl rfl rfl ?_
  refine Plan.move (v := .int _ _) rfl rfl rfl ?_
  refine Plan.move (v := .slice _ _ _) rfl rfl rfl ?_
  refine Plan.callF [] 0 rfl rfl rfl (.inl rfl) (by simp) (fun w hm => sheet_ct a b A l _ c w (hA.mem hm) rfl (by omega)) ?_   -- tinplate/blank.sheet
  rintro v Ln ⟨rfl, rfl⟩
  refine Plan.assign (v := .int _ _) rfl rfl rfl ?_
  refine Plan.done ?_
  refine HW.seq (HW.region [(0, .st), (1, .st)] rfl rfl ?_)
  refine Plan.move (v := .int _ _) rfl rfl rfl ?_
  refine Plan.cmp2 rfl rfl rfl rfl rfl (fun h19 => ?_) (fun h19 => ?_)
  · replace h19 := ne_of_t h19
    exact absurd hs h19
  · replace h19 := eq_of_f h19
    refine Plan.done ?_
    refine HW.cond_false rfl ?_
    refine HW.skip ?_
    refine HW.seq ?_
    refine HW.seq (HW.region [(0, .st), (1, .st), (2, .st)] rfl rfl ?_)
    refine Plan.move (v := .slice _ _ _) rfl rfl rfl ?_
    refine Plan.len rfl rfl slapiCut rfl ?_
    refine Plan.cmp2 rfl rfl rfl rfl rfl (fun h23 => ?_) (fun h23 => ?_)
    · replace h23 := of_decide_eq_true h23
      omega
    · replace h23 := of_decide_eq_false h23
      refine Plan.done ?_
      refine HW.cond_false rfl ?_
      refine HW.skip ?_
      refine HW.seq (HW.region [(0, .st), (1, .st), (2, .st), (3, .st), (4, .ef), (5, .st), (6, .ef), (7, .st)] rfl rfl ?_)
      refine Plan.move (v := .slice _ _ _) rfl rfl rfl ?_
      refine Plan.move (v := .slice _ _ _) rfl rfl rfl ?_
      refine Plan.move (v := .slice _ _ _) rfl rfl rfl ?_
      refine Plan.len rfl rfl slapiItem rfl ?_
      refine Plan.makeOwn (enc := encI) (sz := 1) 0 (l.length) rfl rfl slI infI rfl (by decide) rfl rfl rfl (by omega) (by omega) fun b28 => ?_
      refine Plan.build rfl rfl rfl (fun w => bldsaw ..) ?_
      refine Plan.boxA rfl rfl rfl fun b30 => ?_
      refine Plan.assign (v := .pointer _) rfl rfl rfl ?_
      refine Plan.done ?_
      refine HW.seq ?_
      refine HW.seq (HW.region [(0, .st), (1, .st), (2, .st), (3, .ef), (4, .st), (5, .st), (6, .st), (7, .st), (8, .st), (9, .st), (10, .st), (11, .st), (12, .st)] rfl rfl ?_)
      refine Plan.move (v := .pointer _) rfl rfl rfl ?_
      refine Plan.move (v := .int _ _) rfl rfl rfl ?_
      refine Plan.move (v := .int _ _) rfl rfl rfl ?_
      refine Plan.callF [b30, b28] 2 rfl rfl rfl (.inr hDn) (by simp [Res.blk, Res.own]) (fun w hm => read_call hA hB hpc hp ha hb ha2 hb2 hl hlen hm) ?_   -- (*tinplate/blank.saw).read
      rintro v Ln ⟨rfl, hL1⟩
      refine Plan.splitB (fun h34 => ?_) (fun h34 => ?_)
      · skip
        obtain ⟨B1, pc1, t1, hc1, hLn⟩ := hL1 [] u he
        rw [Int.zero_add] at hLn
        subst hLn
        refine Plan.not rfl rfl rfl ?_
        refine Plan.move (v := .bool _) rfl rfl rfl ?_
        refine Plan.move (v := .pointer _) rfl rfl rfl ?_
        refine Plan.nilCheck rfl rfl rfl ?_
        refine Plan.fieldAddr rfl rfl fldsaw1 rfl ?_
        refine Plan.load (v := .slice _ _ _) rfl rfl agg_api_Cut rfl (Sees.one 0 rfl rfl) ?_
        refine Plan.len rfl rfl slapiCut rfl ?_
        refine Plan.cmp2 rfl rfl rfl rfl rfl (fun h42 => ?_) (fun h42 => ?_)
        · replace h42 := of_decide_eq_true h42
          exact absurd h42 (by decide)
        · replace h42 := of_decide_eq_false h42
          refine Plan.pick (v := .bool _) rfl rfl rfl rfl ?_
          refine Plan.done ?_
          refine HW.cond_false rfl ?_
          refine HW.skip ?_
          refine HW.seq (HW.region_any [] [(0, .st), (1, .st), (2, .st), (3, .st), (4, .st), (5, .st), (6, .st), (7, .st), (8, .st), (9, .st), (10, .st), (11, .st)] mix (by kernel_rfl) (fun _ _ _ _ _ h => h) (zeros rfl) ?_)
          refine Plan.move (v := .pointer _) rfl rfl rfl ?_
          refine Plan.nilCheck rfl rfl rfl ?_
          refine Plan.fieldAddr rfl rfl fldsaw2 rfl ?_
          refine Plan.load (v := .int _ _) rfl rfl aggI rfl (Sees.one 0 rfl rfl) ?_
          refine Plan.move (v := .pointer _) rfl rfl rfl ?_
          refine Plan.nilCheck rfl rfl rfl ?_
          refine Plan.fieldAddr rfl rfl fldsaw3 rfl ?_
          refine Plan.load (v := .slice _ _ _) rfl rfl agg_int rfl (Sees.one 0 rfl rfl) ?_
          refine Plan.assign (v := .int _ _) rfl rfl rfl ?_
          refine Plan.assign (v := .slice _ _ _) rfl rfl rfl ?_
          refine Plan.assign (v := .bool _) rfl rfl rfl ?_
          refine Plan.assign (v := .int _ _) rfl rfl rfl ?_
          refine Plan.done ?_
          exact HW.ret ⟨rfl, _, [ownI (some b28) l.length (addU (List.replicate l.length 0) u)], .tmp rfl (.tmp rfl (.tmp rfl (.tmp rfl .nil))), .cons _ (.refl _), b28, rfl, rfl⟩
      · skip
        rw [he] at h34; cases h34

theorem dotM_bd {l : List It} {m : List Int} (hm : ∀ x ∈ m, 0 ≤ x ∧ x ≤ 20001) (hl : ∀ i ∈ l, 0 ≤ i.2.2 ∧ i.2.2 ≤ 1048576) : ∀ k : Nat, 0 ≤ dotM l m k ∧ dotM l m k ≤ k * 20972568576
  | 0 => by simp [dotM]
  | k + 1 => by
    have ih := dotM_bd hm hl k
    have h1 : 0 ≤ m.getD k 0 ∧ m.getD k 0 ≤ 20001 := by
      rw [List.getD_eq_getElem?_getD]
      cases h : m[k]? with
      | none => decide
      | some x => exact hm x (List.mem_of_getElem? h)
    have h2 : 0 ≤ (l.getD k (0, 0, 0)).2.2 ∧ (l.getD k (0, 0, 0)).2.2 ≤ 1048576 := by
      rw [List.getD_eq_getElem?_getD]
      cases h : l[k]? with
      | none => decide
      | some x => exact hl x (List.mem_of_getElem? h)
    have h3 := Int.mul_nonneg h1.1 h2.1
    have h4 : m.getD k 0 * (l.getD k (0, 0, 0)).2.2 ≤ 20001 * 1048576 := Int.mul_le_mul h1.2 h2.2 h2.1 (by decide)
    rw [dotM]
    push_cast
    omega
theorem dotA_bd {l : List It} {m : List Int} (hm : ∀ x ∈ m, 0 ≤ x ∧ x ≤ 20001) (hl : ∀ i ∈ l, 0 ≤ i.1 ∧ i.1 ≤ 100 ∧ 0 ≤ i.2.1 ∧ i.2.1 ≤ 100) : ∀ k : Nat, 0 ≤ dotA l m k ∧ dotA l m k ≤ k * 200010000
  | 0 => by simp [dotA]
  | k + 1 => by
    have ih := dotA_bd hm hl k
    have h1 : 0 ≤ m.getD k 0 ∧ m.getD k 0 ≤ 20001 := by
      rw [List.getD_eq_getElem?_getD]
      cases h : m[k]? with
      | none => decide
      | some x => exact hm x (List.mem_of_getElem? h)
    have h2 : 0 ≤ (l.getD k (0, 0, 0)).1 ∧ (l.getD k (0, 0, 0)).1 ≤ 100 ∧ 0 ≤ (l.getD k (0, 0, 0)).2.1 ∧ (l.getD k (0, 0, 0)).2.1 ≤ 100 := by
      rw [List.getD_eq_getElem?_getD]
      cases h : l[k]? with
      | none => decide
      | some x => exact hl x (List.mem_of_getElem? h)
    have h3 := Int.mul_nonneg h1.1 h2.1
    have h4 : m.getD k 0 * (l.getD k (0, 0, 0)).1 ≤ 20001 * 100 := Int.mul_le_mul h1.2 h2.2.1 h2.1 (by decide)
    have h5 := Int.mul_nonneg h3 h2.2.2.1
    have h6 : m.getD k 0 * (l.getD k (0, 0, 0)).1 * (l.getD k (0, 0, 0)).2.1 ≤ (20001 * 100) * 100 := Int.mul_le_mul h4 h2.2.2.2 h2.2.2.1 (by decide)
    rw [dotA]
    push_cast
    omega

theorem badI_ar {l : List It} (hl : l.any badI = false) : ∀ i ∈ l, 0 ≤ i.1 ∧ i.1 ≤ 100 ∧ 0 ≤ i.2.1 ∧ i.2.1 ≤ 100 := fun i hi => by
  have := List.any_eq_false.1 hl i hi
  simp only [badI, decide_eq_true_eq] at this
  omega

/-- Worth of the plan of Best -/
theorem WorthB_best (A : Option Addr) (l : List It) (n c : Nat) (B : Option Addr) (pn pc a b : Nat) (w : World) (hA : Rd encT 3 w A l) (hn : n = l.length) (hB : Rd enc 2 w B (Pl l a b)) (hpn : pn = (Pl l a b).length) (hpc : (Pl l a b).length ≤ pc)
    (ha : 0 < a) (hb : 0 < b) (ha2 : a ≤ 100) (hb2 : b ≤ 100) (hlen : l.length ≤ 10) (hl : l.any badI = false) :
    Ct P 23 #[int a, int b, .slice A n c, .slice B pn pc] w [] (fun r L => ∃ mb m, r = .tuple #[int (W l a b), slv (some mb) l.length l.length, .bool true, int 0] ∧ L = [ownI (some mb) l.length m] ∧
      m.length = l.length ∧ (∀ x ∈ m, 0 ≤ x ∧ x ≤ 20001) ∧ dotM l m l.length = W l a b ∧ dotA l m l.length ≤ (a : Int) * b) := by
  obtain ⟨u, hr, hv⟩ := rd_plan l (a + b) a b [] ((Pl l a b).length + 1) (Nat.le_refl _) ha hb (by simp)
  rw [List.append_nil] at hr
  have ho : outP l a b (Pl l a b) = some u := outP_some.2 hr
  have hu := rdP_use hr
  have hle := rd_le l (fun i hi => ⟨(badI_ar hl i hi).1, (badI_ar hl i hi).2.2.1⟩) _ a b _ _ _ ha hb hr
  have hpl := Pl_le (l := l) ha hb ha2 hb2
  refine (WorthB_ok A l n c B (Pl l a b) pn pc a b u w hA hn hB hpn hpc (by omega) ha hb ha2 hb2 hlen hl ho).mono ?_
  rintro r L ⟨mb, rfl, rfl⟩
  refine ⟨mb, addU (List.replicate l.length 0) u, by rw [hv], rfl, by rw [addU_len]; simp, addU_bd u _ (fun x hx => by
    rw [List.eq_of_mem_replicate hx]
    have := hu.1
    simp only [List.length_nil] at this
    omega) (by decide), ?_, ?_⟩
  · rw [dotM_addU l u _ (by simp) hu.2, dotM_zero, hv, Int.zero_add]
  · rw [dotA_addU l u _ (by simp) hu.2, dotA_zero, Int.zero_add]; exact hle.2.1

/-- Worth of any plan -/
theorem WorthB_le (A : Option Addr) (l : List It) (n c : Nat) (B : Option Addr) (p : List Ct2) (pn pc a b : Nat) (w : World) (hA : Rd encT 3 w A l) (hn : n = l.length) (hB : Rd enc 2 w B p) (hpn : pn = p.length) (hpc : p.length ≤ pc) (hp : p.length ≤ 20001)
    (ha : 0 < a) (hb : 0 < b) (ha2 : a ≤ 100) (hb2 : b ≤ 100) (hlen : l.length ≤ 10) (hl : l.any badI = false) :
    Ct P 23 #[int a, int b, .slice A n c, .slice B pn pc] w [] (fun r L => ∃ v o m k is, r = .tuple #[int v, .slice o m k, .bool is, int 0] ∧ (is = true → v ≤ W l a b)) := by
  cases ho : outP l a b p with
  | none =>
    refine (WorthB_bad A l n c B p pn pc a b w hA hn hB hpn hpc hp ha hb ha2 hb2 hlen hl ho).mono ?_
    rintro r L ⟨rfl, rfl⟩
    exact ⟨0, none, 0, 0, false, rfl, fun h => by cases h⟩
  | some u =>
    refine (WorthB_ok A l n c B p pn pc a b u w hA hn hB hpn hpc hp ha hb ha2 hb2 hlen hl ho).mono ?_
    rintro r L ⟨mb, rfl, rfl⟩
    have hle := rd_le l (fun i hi => ⟨(badI_ar hl i hi).1, (badI_ar hl i hi).2.2.1⟩) _ a b _ _ _ ha hb (outP_some.1 ho)
    exact ⟨_, _, _, _, true, rfl, fun _ => hle.1⟩

theorem Plan_far (A : Option Addr) (l : List It) (n c : Nat) (B : Option Addr) (p : List Ct2) (pn pc : Nat) (x y : Int) (w : World) (hn : n = l.length) (hpn : pn = p.length) (hf : ¬ (l.length ≤ 30 ∧ p.length ≤ 1000)) :
    Ct P 8 #[int x, int y, .slice A n c, .slice B pn pc] w [] (fun r L => r = .bool true ∧ L = []) := by
  subst hn hpn
  refine Ct.of_body (rs := [.tmp 8]) (N := 156) (L := []) Try.func8 rfl rfl rfl (by kernel_rfl) rfl (Mem.refl w) ?_
  refine HW.seq (HW.region [(0, .st)] rfl rfl ?_)
  refine Plan.assign (v := .bool _) rfl rfl rfl ?_
  refine Plan.done ?_
  refine HW.seq ?_
  refine HW.seq (HW.region [(0, .st), (1, .st), (2, .st), (3, .st), (4, .st), (5, .st), (6, .st), (7, .st)] rfl rfl ?_)
  refine Plan.move (v := .slice _ _ _) rfl rfl rfl ?_
  refine Plan.len rfl rfl slapiItem rfl ?_
  refine Plan.cmp2 rfl rfl rfl rfl rfl (fun h24 => ?_) (fun h24 => ?_)
  · replace h24 := of_decide_eq_true h24
    refine Plan.move (v := .bool _) rfl rfl rfl ?_
    refine Plan.no rfl rfl ?_
    refine Plan.no rfl rfl ?_
    refine Plan.no rfl rfl ?_
    refine Plan.pick (v := .bool _) rfl rfl rfl rfl ?_
    refine Plan.done ?_
    refine HW.cond_true rfl ?_
    refine HW.seq (HW.region [(0, .ef), (1, .st)] rfl rfl ?_)
    refine Plan.callF [] 0 rfl rfl rfl (.inl rfl) (by simp) (fun w hm => alive_ct w) ?_   -- tinplate/tinplatelaw04.alive
    rintro v Ln ⟨rfl, rfl⟩
    refine Plan.splitB (fun h30 => ?_) (fun h30 => ?_)
    · skip
      refine Plan.assign (v := .bool _) rfl rfl rfl ?_
      refine Plan.done ?_
      exact HW.ret ⟨rfl, _, [], .tmp rfl .nil, List.nil_sublist _, rfl, rfl⟩
    · skip
      exact absurd h30 (by decide)
  · replace h24 := of_decide_eq_false h24
    refine Plan.move (v := .bool _) rfl rfl rfl ?_
    refine Plan.move (v := .slice _ _ _) rfl rfl rfl ?_
    refine Plan.len rfl rfl slapiCut rfl ?_
    refine Plan.cmp2 rfl rfl rfl rfl rfl (fun h28 => ?_) (fun h28 => ?_)
    · replace h28 := of_decide_eq_true h28
      refine Plan.pick (v := .bool _) rfl rfl rfl rfl ?_
      refine Plan.done ?_
      refine HW.cond_true rfl ?_
      refine HW.seq (HW.region [(0, .ef), (1, .st)] rfl rfl ?_)
      refine Plan.callF [] 0 rfl rfl rfl (.inl rfl) (by simp) (fun w hm => alive_ct w) ?_   -- tinplate/tinplatelaw04.alive
      rintro v Ln ⟨rfl, rfl⟩
      refine Plan.splitB (fun h30 => ?_) (fun h30 => ?_)
      · skip
        refine Plan.assign (v := .bool _) rfl rfl rfl ?_
        refine Plan.done ?_
        exact HW.ret ⟨rfl, _, [], .tmp rfl .nil, List.nil_sublist _, rfl, rfl⟩
      · skip
        exact absurd h30 (by decide)
    · replace h28 := of_decide_eq_false h28
      omega

theorem Plan_no (A : Option Addr) (l : List It) (n c : Nat) (B : Option Addr) (p : List Ct2) (pn pc : Nat) (x y : Int) (w : World) (hA : Rd encT 3 w A l) (hn : n = l.length) (hpn : pn = p.length) (h30 : l.length ≤ 30) (hp : p.length ≤ 1000) (hs : sheetF x y l ≠ 0) :
    Ct P 8 #[int x, int y, .slice A n c, .slice B pn pc] w [] (fun r L => r = .bool true ∧ L = []) := by
  subst hn hpn
  refine Ct.of_body (rs := [.tmp 8]) (N := 156) (L := []) Try.func8 rfl rfl rfl (by kernel_rfl) rfl (Mem.refl w) ?_
  refine HW.seq (HW.region [(0, .st)] rfl rfl ?_)
  refine Plan.assign (v := .bool _) rfl rfl rfl ?_
  refine Plan.done ?_
  refine HW.seq ?_
  refine HW.seq (HW.region [(0, .st), (1, .st), (2, .st), (3, .st), (4, .st), (5, .st), (6, .st), (7, .st)] rfl rfl ?_)
  refine Plan.move (v := .slice _ _ _) rfl rfl rfl ?_
  refine Plan.len rfl rfl slapiItem rfl ?_
  refine Plan.cmp2 rfl rfl rfl rfl rfl (fun h24 => ?_) (fun h24 => ?_)
  · replace h24 := of_decide_eq_true h24
    omega
  · replace h24 := of_decide_eq_false h24
    refine Plan.move (v := .bool _) rfl rfl rfl ?_
    refine Plan.move (v := .slice _ _ _) rfl rfl rfl ?_
    refine Plan.len rfl rfl slapiCut rfl ?_
    refine Plan.cmp2 rfl rfl rfl rfl rfl (fun h28 => ?_) (fun h28 => ?_)
    · replace h28 := of_decide_eq_true h28
      omega
    · replace h28 := of_decide_eq_false h28
      refine Plan.pick (v := .bool _) rfl rfl rfl rfl ?_
      refine Plan.done ?_
      refine HW.cond_false rfl ?_
      refine HW.skip ?_
      refine HW.seq (HW.region [(0, .st), (1, .st), (2, .st), (3, .ef), (4, .st), (5, .st), (6, .st), (7, .st), (8, .st), (9, .st), (10, .st)] rfl rfl ?_)
      refine Plan.move (v := .int _ _) rfl rfl rfl ?_
      refine Plan.move (v := .int _ _) rfl rfl rfl ?_
      refine Plan.move (v := .slice _ _ _) rfl rfl rfl ?_
      refine Plan.callF [] 0 rfl rfl rfl (.inl rfl) (by simp) (fun w hm => Best_no A l _ c x y w (hA.mem hm) rfl (by omega) hs) ?_   -- tinplate/blank.Best
      rintro v Ln ⟨rfl, rfl⟩
      refine Plan.move (v := .tuple _) rfl rfl rfl ?_
      refine Plan.extract (v := .int _ _) rfl rfl rfl rfl ?_
      refine Plan.extract (v := .slice _ _ _) rfl rfl rfl rfl ?_
      refine Plan.extract (v := .int _ _) rfl rfl rfl rfl ?_
      refine Plan.assign (v := .int _ _) rfl rfl rfl ?_
      refine Plan.assign (v := .slice _ _ _) rfl rfl rfl ?_
      refine Plan.assign (v := .int _ _) rfl rfl rfl ?_
      refine Plan.done ?_
      refine HW.seq ?_
      refine HW.seq (HW.region [(0, .st), (1, .st)] rfl rfl ?_)
      refine Plan.move (v := .int _ _) rfl rfl rfl ?_
      refine Plan.cmp2 rfl rfl rfl rfl rfl (fun h40 => ?_) (fun h40 => ?_)
      · replace h40 := ne_of_t h40
        refine Plan.done ?_
        refine HW.cond_true rfl ?_
        refine HW.seq (HW.region [(0, .st), (1, .st), (2, .st), (3, .st), (4, .st), (5, .st), (6, .st), (7, .st), (8, .ef), (9, .st), (10, .st)] rfl rfl ?_)
        refine Plan.move (v := .int _ _) rfl rfl rfl ?_
        refine Plan.cmp2 rfl rfl rfl rfl rfl (fun h42 => ?_) (fun h42 => ?_)
        · replace h42 := of_decide_eq_true h42
          refine Plan.move (v := .bool _) rfl rfl rfl ?_
          refine Plan.move (v := .slice _ _ _) rfl rfl rfl ?_
          refine Plan.len rfl rfl slapiCut rfl ?_
          refine Plan.cmp2 rfl rfl rfl rfl rfl (fun h46 => ?_) (fun h46 => ?_)
          · replace h46 := of_decide_eq_true h46
            refine Plan.pick (v := .bool _) rfl rfl rfl rfl ?_
            refine Plan.move (v := .bool _) rfl rfl rfl ?_
            refine Plan.callF [] 0 rfl rfl rfl (.inl rfl) (by simp) (fun w hm => alive_ct w) ?_   -- tinplate/tinplatelaw04.alive
            rintro v Ln ⟨rfl, rfl⟩
            refine Plan.splitB (fun h49 => ?_) (fun h49 => ?_)
            · skip
              refine Plan.pick (v := .bool _) rfl rfl rfl rfl ?_
              refine Plan.assign (v := .bool _) rfl rfl rfl ?_
              refine Plan.done ?_
              exact HW.ret ⟨rfl, _, [], .tmp rfl .nil, List.nil_sublist _, rfl, rfl⟩
            · skip
              exact absurd h49 (by decide)
          · replace h46 := of_decide_eq_false h46
            exact absurd rfl h46
        · replace h42 := of_decide_eq_false h42
          exact absurd rfl h42
      · replace h40 := eq_of_f h40
        exact absurd h40 hs

set_option maxRecDepth 100000 in
theorem Plan_ok (A : Option Addr) (l : List It) (n c : Nat) (B : Option Addr) (p : List Ct2) (pn pc : Nat) (a b : Nat) (w : World) (hA : Rd encT 3 w A l) (hn : n = l.length) (hB : Rd enc 2 w B p) (hpn : pn = p.length) (hpc : p.length ≤ pc) (hp : p.length ≤ 1000)
    (ha : 0 < a) (hb : 0 < b) (ha2 : a ≤ 100) (hb2 : b ≤ 100) (hlen : l.length ≤ 10) (hl : l.any badI = false) :
    Ct P 8 #[int a, int b, .slice A n c, .slice B pn pc] w [] (fun r L => r = .bool true ∧ L = []) := by
  subst hn hpn
  have hab : 0 ≤ (a : Int) * b ∧ (a : Int) * b ≤ 10000 := by
    have h1 : a * b ≤ 100 * 100 := Nat.mul_le_mul ha2 hb2
    have h2 : ((a * b : Nat) : Int) = (a : Int) * b := by push_cast; rfl
    omega
  refine Ct.of_body (rs := [.tmp 8]) (N := 156) (L := []) Try.func8 rfl rfl rfl (by kernel_rfl) rfl (Mem.refl w) ?_
  refine HW.seq (HW.region [(0, .st)] rfl rfl ?_)
  refine Plan.assign (v := .bool _) rfl rfl rfl ?_
  refine Plan.done ?_
  refine HW.seq ?_
  refine HW.seq (HW.region [(0, .st), (1, .st), (2, .st), (3, .st), (4, .st), (5, .st), (6, .st), (7, .st)] rfl rfl ?_)
  refine Plan.move (v := .slice _ _ _) rfl rfl rfl ?_
  refine Plan.len rfl rfl slapiItem rfl ?_
  refine Plan.cmp2 rfl rfl rfl rfl rfl (fun h24 => ?_) (fun h24 => ?_)
  · replace h24 := of_decide_eq_true h24
    omega
  · replace h24 := of_decide_eq_false h24
    refine Plan.move (v := .bool _) rfl rfl rfl ?_
    refine Plan.move (v := .slice _ _ _) rfl rfl rfl ?_
    refine Plan.len rfl rfl slapiCut rfl ?_
    refine Plan.cmp2 rfl rfl rfl rfl rfl (fun h28 => ?_) (fun h28 => ?_)
    · replace h28 := of_decide_eq_true h28
      omega
    · replace h28 := of_decide_eq_false h28
      refine Plan.pick (v := .bool _) rfl rfl rfl rfl ?_
      refine Plan.done ?_
      refine HW.cond_false rfl ?_
      refine HW.skip ?_
      refine HW.seq (HW.region [(0, .st), (1, .st), (2, .st), (3, .ef), (4, .st), (5, .st), (6, .st), (7, .st), (8, .st), (9, .st), (10, .st)] rfl rfl ?_)
      refine Plan.move (v := .int _ _) rfl rfl rfl ?_
      refine Plan.move (v := .int _ _) rfl rfl rfl ?_
      refine Plan.move (v := .slice _ _ _) rfl rfl rfl ?_
      refine Plan.callF [] 0 rfl rfl rfl (.inl rfl) (by simp) (fun w hm => Best_ok A l _ c a b w (hA.mem hm) rfl ha hb ha2 hb2 hlen hl) ?_   -- tinplate/blank.Best
      rintro v Ln ⟨o, c1, rfl, rfl⟩
      refine Plan.move (v := .tuple _) rfl rfl rfl ?_
      refine Plan.extract (v := .int _ _) rfl rfl rfl rfl ?_
      refine Plan.extract (v := .slice _ _ _) rfl rfl rfl rfl ?_
      refine Plan.extract (v := .int _ _) rfl rfl rfl rfl ?_
      refine Plan.assign (v := .int _ _) rfl rfl rfl ?_
      refine Plan.assign (v := .slice _ _ _) rfl rfl rfl ?_
      refine Plan.assign (v := .int _ _) rfl rfl rfl ?_
      refine Plan.done ?_
      refine HW.seq ?_
      refine HW.seq (HW.region [(0, .st), (1, .st)] rfl rfl ?_)
      refine Plan.move (v := .int _ _) rfl rfl rfl ?_
      refine Plan.cmp2 rfl rfl rfl rfl rfl (fun h40 => ?_) (fun h40 => ?_)
      · replace h40 := ne_of_t h40
        exact absurd rfl h40
      · replace h40 := eq_of_f h40
        refine Plan.done ?_
        refine HW.cond_false rfl ?_
        refine HW.skip ?_
        refine HW.seq (HW.region [(0, .st), (1, .st), (2, .st), (3, .st), (4, .ef), (5, .st), (6, .st), (7, .st), (8, .st), (9, .st), (10, .st), (11, .st), (12, .st), (13, .st)] rfl rfl ?_)
        refine Plan.move (v := .int _ _) rfl rfl rfl ?_
        refine Plan.move (v := .int _ _) rfl rfl rfl ?_
        refine Plan.move (v := .slice _ _ _) rfl rfl rfl ?_
        refine Plan.move (v := .slice _ _ _) rfl rfl rfl ?_
        refine Plan.callF [] 0 rfl rfl rfl (.inl rfl) (by simp) (fun w hm => WorthB_best A l _ c (at0 o) _ c1 a b w (hA.mem hm) rfl (Res.own_rd enc2 (hm.res (ownC o c1 (Pl l a b)) (by simp))) rfl (Res.own_cap (hm.res (ownC o c1 (Pl l a b)) (by simp))).1 ha hb ha2 hb2 hlen hl) ?_   -- tinplate/blank.Worth
        rintro v Ln ⟨mb, m, rfl, rfl, hml, hm0, hdm, hda⟩
        refine Plan.move (v := .tuple _) rfl rfl rfl ?_
        refine Plan.extract (v := .int _ _) rfl rfl rfl rfl ?_
        refine Plan.extract (v := .slice _ _ _) rfl rfl rfl rfl ?_
        refine Plan.extract (v := .bool _) rfl rfl rfl rfl ?_
        refine Plan.extract (v := .int _ _) rfl rfl rfl rfl ?_
        refine Plan.assign (v := .int _ _) rfl rfl rfl ?_
        refine Plan.assign (v := .slice _ _ _) rfl rfl rfl ?_
        refine Plan.assign (v := .bool _) rfl rfl rfl ?_
        refine Plan.assign (v := .int _ _) rfl rfl rfl ?_
        refine Plan.done ?_
        refine HW.seq ?_
        refine HW.seq (HW.region [(0, .st), (1, .st), (2, .st), (3, .st), (4, .st), (5, .st), (6, .st), (7, .st), (8, .st), (9, .st), (10, .st), (11, .st), (12, .st), (13, .st), (14, .st), (15, .st), (16, .st), (17, .st)] rfl rfl ?_)
        refine Plan.move (v := .int _ _) rfl rfl rfl ?_
        refine Plan.cmp2 rfl rfl rfl rfl rfl (fun h62 => ?_) (fun h62 => ?_)
        · replace h62 := ne_of_t h62
          exact absurd rfl h62
        · replace h62 := eq_of_f h62
          refine Plan.move (v := .bool _) rfl rfl rfl ?_
          refine Plan.move (v := .bool _) rfl rfl rfl ?_
          refine Plan.not rfl rfl rfl ?_
          refine Plan.pick (v := .bool _) rfl rfl rfl rfl ?_
          refine Plan.move (v := .bool _) rfl rfl rfl ?_
          refine Plan.move (v := .int _ _) rfl rfl rfl ?_
          refine Plan.move (v := .int _ _) rfl rfl rfl ?_
          refine Plan.cmp2 rfl rfl rfl rfl rfl (fun h70 => ?_) (fun h70 => ?_)
          · replace h70 := ne_of_t h70
            exact absurd rfl h70
          · replace h70 := eq_of_f h70
            refine Plan.pick (v := .bool _) rfl rfl rfl rfl ?_
            refine Plan.move (v := .bool _) rfl rfl rfl ?_
            refine Plan.move (v := .slice _ _ _) rfl rfl rfl ?_
            refine Plan.len rfl rfl slI rfl ?_
            refine Plan.move (v := .slice _ _ _) rfl rfl rfl ?_
            refine Plan.len rfl rfl slapiItem rfl ?_
            refine Plan.cmp2 rfl rfl rfl rfl rfl (fun h77 => ?_) (fun h77 => ?_)
            · replace h77 := ne_of_t h77
              exact absurd rfl h77
            · replace h77 := eq_of_f h77
              refine Plan.pick (v := .bool _) rfl rfl rfl rfl ?_
              refine Plan.done ?_
              refine HW.cond_false rfl ?_
              refine HW.skip ?_
              refine HW.seq (HW.region [(0, .st), (1, .st)] rfl rfl ?_)
              refine Plan.assign (v := .int _ _) rfl rfl rfl ?_
              refine Plan.assign (v := .int _ _) rfl rfl rfl ?_
              refine Plan.done ?_
              refine HW.seq ?_
              refine HW.seq (HW.region [(0, .st)] rfl rfl ?_)
              refine Plan.assign (v := .int _ _) rfl rfl rfl ?_
              refine Plan.done ?_
              refine HW.block ?_
              refine HW.loopC (G := Nat) [8, 16, 17, 18, 79, 80, 81, 82, 83, 84, 85, 86, 87, 88, 89, 90, 91, 92, 93, 94, 95, 96, 97, 98, 99, 100, 101, 102, 103, 104, 105, 106, 107, 108, 109, 110, 111, 112, 113, 114, 115, 116, 117, 118, 119] (fun g => [(16, int (dotM l m g)), (17, int (dotA l m g)), (18, int g)]) (fun g => g ≤ l.length) (fun g => l.length - g) (0) ⟨rfl, rfl, rfl, trivial⟩ (Nat.zero_le _) (fun g F hok => ?_)
              refine HW.seq ?_
              refine HW.seq (HW.region [(0, .st), (1, .st), (2, .st), (3, .st)] rfl rfl ?_)
              refine Plan.move (v := .int _ _) rfl rfl rfl ?_
              refine Plan.move (v := .slice _ _ _) rfl rfl rfl ?_
              refine Plan.len rfl rfl slapiItem rfl ?_
              refine Plan.cmp2 rfl rfl rfl rfl rfl (fun h82 => ?_) (fun h82 => ?_)
              · replace h82 := of_decide_eq_true h82
                have hlt : g < l.length := by omega
                obtain ⟨ad, rfl, hl1⟩ := hA g hlt
                have hgm : g < m.length := by omega
                have e1 : m.getD g 0 = m[g] := by simp only [List.getD_eq_getElem?_getD, List.getElem?_eq_getElem hgm, Option.getD_some]
                have e2 : l.getD g (0, 0, 0) = l[g] := by simp only [List.getD_eq_getElem?_getD, List.getElem?_eq_getElem hlt, Option.getD_some]
                have hmg := hm0 m[g] (List.getElem_mem hgm)
                have hv := badI_val hl l[g] (List.getElem_mem hlt)
                have hr := badI_ar hl l[g] (List.getElem_mem hlt)
                have b1 := dotM_bd hm0 (badI_val hl) g
                have b2 := dotA_bd hm0 (badI_ar hl) g
                have p1 := Int.mul_nonneg hmg.1 hv.1
                have p2 : m[g] * l[g].2.2 ≤ 20001 * 1048576 := Int.mul_le_mul hmg.2 hv.2 hv.1 (by decide)
                have p3 := Int.mul_nonneg hmg.1 hr.1
                have p4 : m[g] * l[g].1 ≤ 20001 * 100 := Int.mul_le_mul hmg.2 hr.2.1 hr.1 (by decide)
                have p5 := Int.mul_nonneg p3 hr.2.2.1
                have p6 : m[g] * l[g].1 * l[g].2.1 ≤ (20001 * 100) * 100 := Int.mul_le_mul p4 hr.2.2.2 hr.2.2.1 (by decide)
                refine Plan.done ?_
                refine HW.cond_true rfl ?_
                refine HW.skip ?_
                refine HW.seq ?_
                refine HW.block ?_
                refine HW.seq ?_
                refine HW.seq (HW.region [(0, .st), (1, .st), (2, .st), (3, .st), (4, .st)] rfl rfl ?_)
                refine Plan.move (v := .slice _ _ _) rfl rfl rfl ?_
                refine Plan.move (v := .int _ _) rfl rfl rfl ?_
                refine Plan.indexN (g) rfl rfl slI sizI rfl rfl rfl rfl (hlt) ?_
                refine Plan.load (v := .int _ _) rfl rfl aggI rfl (Sees.own 0 encI1 rfl mb rfl g hgm) ?_
                refine Plan.cmp2 rfl rfl rfl rfl rfl (fun h89 => ?_) (fun h89 => ?_)
                · replace h89 := of_decide_eq_true h89
                  omega
                · replace h89 := of_decide_eq_false h89
                  refine Plan.done ?_
                  refine HW.cond_false rfl ?_
                  refine HW.skip ?_
                  refine HW.seq (HW.region_any [] [(0, .st), (1, .st), (2, .st), (3, .st), (4, .st), (5, .st), (6, .st), (7, .st), (8, .st), (9, .st), (10, .st), (11, .st), (12, .st)] mix (by kernel_rfl) (fun _ _ _ _ _ h => h) (zeros rfl) ?_)
                  refine Plan.move (v := .int _ _) rfl rfl rfl ?_
                  refine Plan.move (v := .slice _ _ _) rfl rfl rfl ?_
                  refine Plan.move (v := .int _ _) rfl rfl rfl ?_
                  refine Plan.indexN (g) rfl rfl slI sizI rfl rfl rfl rfl (hlt) ?_
                  refine Plan.load (v := .int _ _) rfl rfl aggI rfl (Sees.own 0 encI1 rfl mb rfl g hgm) ?_
                  refine Plan.move (v := .slice _ _ _) rfl rfl rfl ?_
                  refine Plan.move (v := .int _ _) rfl rfl rfl ?_
                  refine Plan.indexN (g) rfl rfl slapiItem sizapiItem rfl rfl rfl rfl (hlt) ?_
                  refine Plan.fieldAddr rfl rfl fldItem2 rfl ?_
                  refine Plan.load (v := .int _ _) rfl rfl aggI rfl (Sees.nth (Sees.old hl1 (by simp)) 2 rfl) ?_
                  refine Plan.arithI rfl rfl rfl rfl rfl (by omega) ?_
                  refine Plan.arithI rfl rfl rfl rfl rfl (by omega) ?_
                  refine Plan.assign (v := .int _ _) rfl rfl rfl ?_
                  refine Plan.done ?_
                  refine HW.region_any [] [(0, .st), (1, .st), (2, .st), (3, .st), (4, .st), (5, .st), (6, .st), (7, .st), (8, .st), (9, .st), (10, .st), (11, .st), (12, .st), (13, .st), (14, .st), (15, .st), (16, .st), (17, .st), (18, .st)] mix (by kernel_rfl) (fun _ _ _ _ _ h => h) (zeros rfl) ?_
                  refine Plan.move (v := .int _ _) rfl rfl rfl ?_
                  refine Plan.move (v := .slice _ _ _) rfl rfl rfl ?_
                  refine Plan.move (v := .int _ _) rfl rfl rfl ?_
                  refine Plan.indexN (g) rfl rfl slI sizI rfl rfl rfl rfl (hlt) ?_
                  refine Plan.load (v := .int _ _) rfl rfl aggI rfl (Sees.own 0 encI1 rfl mb rfl g hgm) ?_
                  refine Plan.move (v := .slice _ _ _) rfl rfl rfl ?_
                  refine Plan.move (v := .int _ _) rfl rfl rfl ?_
                  refine Plan.indexN (g) rfl rfl slapiItem sizapiItem rfl rfl rfl rfl (hlt) ?_
                  refine Plan.fieldAddr rfl rfl fldItem0 rfl ?_
                  refine Plan.load (v := .int _ _) rfl rfl aggI rfl (Sees.nth (Sees.old hl1 (by simp)) 0 rfl) ?_
                  refine Plan.arithI rfl rfl rfl rfl rfl (by omega) ?_
                  refine Plan.move (v := .slice _ _ _) rfl rfl rfl ?_
                  refine Plan.move (v := .int _ _) rfl rfl rfl ?_
                  refine Plan.indexN (g) rfl rfl slapiItem sizapiItem rfl rfl rfl rfl (hlt) ?_
                  refine Plan.fieldAddr rfl rfl fldItem1 rfl ?_
                  refine Plan.load (v := .int _ _) rfl rfl aggI rfl (Sees.nth (Sees.old hl1 (by simp)) 1 rfl) ?_
                  refine Plan.arithI rfl rfl rfl rfl rfl (by omega) ?_
                  refine Plan.arithI rfl rfl rfl rfl rfl (by omega) ?_
                  refine Plan.assign (v := .int _ _) rfl rfl rfl ?_
                  refine Plan.done ?_
                  refine HW.region [(0, .st), (1, .st), (2, .st)] rfl rfl ?_
                  refine Plan.move (v := .int _ _) rfl rfl rfl ?_
                  refine Plan.arithI rfl rfl rfl rfl rfl (by omega) ?_
                  refine Plan.assign (v := .int _ _) rfl rfl rfl ?_
                  refine Plan.done ?_
                  exact ⟨g + 1, by simp only; omega, hlt, rfl, Ent.sub (.refl _), (by repeat (first | exact Agree.havoc _ _ _ | refine Agree.updN ?_ | refine Agree.upd rfl ?_ | refine Agree.updL rfl ?_ | refine Agree.havoc2 rfl ?_)), ⟨int_eq (by rw [dotM, e1, e2]), int_eq (by rw [dotA, e1, e2]), rfl, trivial⟩⟩
              · replace h82 := of_decide_eq_false h82
                have hke : g = l.length := by omega
                subst hke
                refine Plan.done ?_
                refine HW.cond_false rfl ?_
                refine HW.exit ?_
                refine HW.seq (HW.region [(0, .st), (1, .st), (2, .st), (3, .st), (4, .ef), (5, .st), (6, .st), (7, .st), (8, .st), (9, .st), (10, .st), (11, .st), (12, .st), (13, .st)] rfl rfl ?_)
                refine Plan.move (v := .int _ _) rfl rfl rfl ?_
                refine Plan.move (v := .int _ _) rfl rfl rfl ?_
                refine Plan.move (v := .slice _ _ _) rfl rfl rfl ?_
                refine Plan.move (v := .slice _ _ _) rfl rfl rfl ?_
                refine Plan.callF [] 0 rfl rfl rfl (.inl rfl) (by simp) (fun w hm => WorthB_le A l _ c B p _ pc a b w (hA.mem hm) rfl (hB.mem hm) rfl hpc (by omega) ha hb ha2 hb2 hlen hl) ?_   -- tinplate/blank.Worth
                rintro v Ln ⟨v2, o2, n2, c2, is2, rfl, hle2⟩
                refine Plan.move (v := .tuple _) rfl rfl rfl ?_
                refine Plan.extract (v := .int _ _) rfl rfl rfl rfl ?_
                refine Plan.extract (v := .slice _ _ _) rfl rfl rfl rfl ?_
                refine Plan.extract (v := .bool _) rfl rfl rfl rfl ?_
                refine Plan.splitB (fun h128 => ?_) (fun h128 => ?_)
                · skip
                  refine Plan.extract (v := .int _ _) rfl rfl rfl rfl ?_
                  refine Plan.assign (v := .int _ _) rfl rfl rfl ?_
                  refine Plan.assign (v := .slice _ _ _) rfl rfl rfl ?_
                  refine Plan.assign (v := .bool _) rfl rfl rfl ?_
                  refine Plan.assign (v := .int _ _) rfl rfl rfl ?_
                  refine Plan.done ?_
                  refine HW.seq (HW.region [(0, .st), (1, .st), (2, .st), (3, .st), (4, .st), (5, .st), (6, .st), (7, .st), (8, .st), (9, .st), (10, .st), (11, .st), (12, .st), (13, .st), (14, .st), (15, .st), (16, .st), (17, .st), (18, .st), (19, .st), (20, .st), (21, .st), (22, .st), (23, .st), (24, .ef), (25, .st), (26, .st)] rfl rfl ?_)
                  refine Plan.move (v := .int _ _) rfl rfl rfl ?_
                  refine Plan.move (v := .int _ _) rfl rfl rfl ?_
                  refine Plan.cmp2 rfl rfl rfl rfl rfl (fun h132 => ?_) (fun h132 => ?_)
                  · replace h132 := of_decide_eq_true h132
                    refine Plan.move (v := .bool _) rfl rfl rfl ?_
                    refine Plan.move (v := .int _ _) rfl rfl rfl ?_
                    refine Plan.move (v := .int _ _) rfl rfl rfl ?_
                    refine Plan.move (v := .int _ _) rfl rfl rfl ?_
                    refine Plan.arithI rfl rfl rfl rfl rfl (by omega) ?_
                    refine Plan.cmp2 rfl rfl rfl rfl rfl (fun h138 => ?_) (fun h138 => ?_)
                    · replace h138 := of_decide_eq_true h138
                      refine Plan.pick (v := .bool _) rfl rfl rfl rfl ?_
                      refine Plan.move (v := .bool _) rfl rfl rfl ?_
                      refine Plan.move (v := .int _ _) rfl rfl rfl ?_
                      refine Plan.cmp2 rfl rfl rfl rfl rfl (fun h142 => ?_) (fun h142 => ?_)
                      · replace h142 := of_decide_eq_true h142
                        refine Plan.pick (v := .bool _) rfl rfl rfl rfl ?_
                        refine Plan.move (v := .bool _) rfl rfl rfl ?_
                        refine Plan.move (v := .bool _) rfl rfl rfl ?_
                        refine Plan.not rfl rfl rfl ?_
                        refine Plan.move (v := .bool _) rfl rfl rfl ?_
                        refine Plan.move (v := .int _ _) rfl rfl rfl ?_
                        refine Plan.move (v := .int _ _) rfl rfl rfl ?_
                        refine Plan.cmp2 rfl rfl rfl rfl rfl (fun h150 => ?_) (fun h150 => ?_)
                        · replace h150 := of_decide_eq_true h150
                          refine Plan.pick (v := .bool _) rfl rfl rfl rfl ?_
                          refine Plan.pick (v := .bool _) rfl rfl rfl rfl ?_
                          refine Plan.move (v := .bool _) rfl rfl rfl ?_
                          refine Plan.callF [] 0 rfl rfl rfl (.inl rfl) (by simp) (fun w hm => alive_ct w) ?_   -- tinplate/tinplatelaw04.alive
                          rintro v Ln ⟨rfl, rfl⟩
                          refine Plan.splitB (fun h154 => ?_) (fun h154 => ?_)
                          · skip
                            refine Plan.pick (v := .bool _) rfl rfl rfl rfl ?_
                            refine Plan.assign (v := .bool _) rfl rfl rfl ?_
                            refine Plan.done ?_
                            exact HW.ret ⟨rfl, _, [], .tmp rfl .nil, List.nil_sublist _, rfl, rfl⟩
                          · skip
                            exact absurd h154 (by decide)
                        · replace h150 := of_decide_eq_false h150
                          exact absurd (hle2 h128) h150
                      · replace h142 := of_decide_eq_false h142
                        exact absurd rfl h142
                    · replace h138 := of_decide_eq_false h138
                      exact absurd hda h138
                  · replace h132 := of_decide_eq_false h132
                    exact absurd hdm h132
                · skip
                  refine Plan.extract (v := .int _ _) rfl rfl rfl rfl ?_
                  refine Plan.assign (v := .int _ _) rfl rfl rfl ?_
                  refine Plan.assign (v := .slice _ _ _) rfl rfl rfl ?_
                  refine Plan.assign (v := .bool _) rfl rfl rfl ?_
                  refine Plan.assign (v := .int _ _) rfl rfl rfl ?_
                  refine Plan.done ?_
                  refine HW.seq (HW.region [(0, .st), (1, .st), (2, .st), (3, .st), (4, .st), (5, .st), (6, .st), (7, .st), (8, .st), (9, .st), (10, .st), (11, .st), (12, .st), (13, .st), (14, .st), (15, .st), (16, .st), (17, .st), (18, .st), (19, .st), (20, .st), (21, .st), (22, .st), (23, .st), (24, .ef), (25, .st), (26, .st)] rfl rfl ?_)
                  refine Plan.move (v := .int _ _) rfl rfl rfl ?_
                  refine Plan.move (v := .int _ _) rfl rfl rfl ?_
                  refine Plan.cmp2 rfl rfl rfl rfl rfl (fun h132 => ?_) (fun h132 => ?_)
                  · replace h132 := of_decide_eq_true h132
                    refine Plan.move (v := .bool _) rfl rfl rfl ?_
                    refine Plan.move (v := .int _ _) rfl rfl rfl ?_
                    refine Plan.move (v := .int _ _) rfl rfl rfl ?_
                    refine Plan.move (v := .int _ _) rfl rfl rfl ?_
                    refine Plan.arithI rfl rfl rfl rfl rfl (by omega) ?_
                    refine Plan.cmp2 rfl rfl rfl rfl rfl (fun h138 => ?_) (fun h138 => ?_)
                    · replace h138 := of_decide_eq_true h138
                      refine Plan.pick (v := .bool _) rfl rfl rfl rfl ?_
                      refine Plan.move (v := .bool _) rfl rfl rfl ?_
                      refine Plan.move (v := .int _ _) rfl rfl rfl ?_
                      refine Plan.cmp2 rfl rfl rfl rfl rfl (fun h142 => ?_) (fun h142 => ?_)
                      · replace h142 := of_decide_eq_true h142
                        refine Plan.pick (v := .bool _) rfl rfl rfl rfl ?_
                        refine Plan.move (v := .bool _) rfl rfl rfl ?_
                        refine Plan.move (v := .bool _) rfl rfl rfl ?_
                        refine Plan.not rfl rfl rfl ?_
                        refine Plan.move (v := .bool _) rfl rfl rfl ?_
                        refine Plan.no rfl rfl ?_
                        refine Plan.no rfl rfl ?_
                        refine Plan.no rfl rfl ?_
                        refine Plan.pick (v := .bool _) rfl rfl rfl rfl ?_
                        refine Plan.pick (v := .bool _) rfl rfl rfl rfl ?_
                        refine Plan.move (v := .bool _) rfl rfl rfl ?_
                        refine Plan.callF [] 0 rfl rfl rfl (.inl rfl) (by simp) (fun w hm => alive_ct w) ?_   -- tinplate/tinplatelaw04.alive
                        rintro v Ln ⟨rfl, rfl⟩
                        refine Plan.splitB (fun h154 => ?_) (fun h154 => ?_)
                        · skip
                          refine Plan.pick (v := .bool _) rfl rfl rfl rfl ?_
                          refine Plan.assign (v := .bool _) rfl rfl rfl ?_
                          refine Plan.done ?_
                          exact HW.ret ⟨rfl, _, [], .tmp rfl .nil, List.nil_sublist _, rfl, rfl⟩
                        · skip
                          exact absurd h154 (by decide)
                      · replace h142 := of_decide_eq_false h142
                        exact absurd rfl h142
                    · replace h138 := of_decide_eq_false h138
                      exact absurd hda h138
                  · replace h132 := of_decide_eq_false h132
                    exact absurd hdm h132

theorem blankPlan_ct (A B : Option Addr) (x y : Int) (l : List It) (p : List Ct2) (n c pn pc : Nat) (w : World) (hA : Rd encT 3 w A l) (hB : Rd enc 2 w B p) (hn : n = l.length) (hpn : pn = p.length) (hpc : pn ≤ pc) :
    Ct P 8 #[int x, int y, .slice A n c, .slice B pn pc] w [] (fun r L => r = .bool true ∧ L = []) := by
  by_cases hf : l.length ≤ 30 ∧ p.length ≤ 1000
  · by_cases hs : sheetF x y l = 0
    · obtain ⟨x1, x2, y1, y2, hlen, hl⟩ := sheetF_ok hs
      obtain ⟨a, rfl⟩ := Int.eq_ofNat_of_zero_le (show 0 ≤ x by omega)
      obtain ⟨b, rfl⟩ := Int.eq_ofNat_of_zero_le (show 0 ≤ y by omega)
      exact Plan_ok A l n c B p pn pc a b w hA hn hB hpn (by omega) hf.2 (by omega) (by omega) (by omega) (by omega) hlen hl
    · exact Plan_no A l n c B p pn pc x y w hA hn hpn hf.1 hf.2 hs
  · exact Plan_far A l n c B p pn pc x y w hn hpn hf

end Go.Proofs.Ytjmklbkcpjmcaaa.V
