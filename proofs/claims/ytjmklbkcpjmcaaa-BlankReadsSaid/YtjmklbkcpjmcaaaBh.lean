/-
  Package tinplateref04: Worth; BlankReads, its contract.
-/
import Derived.Test.YtjmklbkcpjmcaaaBg
namespace Go.Proofs.Ytjmklbkcpjmcaaa.V
open Go Go.RowKit Go.Proofs.Ytjmklbkcpjmcaaa.H Go.Proofs.Ytjmklbkcpjmcaaa.LL
set_option linter.unusedVariables false
set_option linter.unusedSimpArgs false

theorem WorthR_no (x y : Int) (A : Option Addr) (l : List It) (n c : Nat) (B : Option Addr) (pn pc : Nat) (w : World) (hA : Rd encT 3 w A l) (hn : n = l.length) (hlen : l.length ≤ 1000000) (hs : sheetF x y l ≠ 0) :
    Ct P 24 #[int x, int y, .slice A n c, .slice B pn pc] w [] (fun r L => r = .tuple #[int 0, .slice none 0 0, .bool false, int (sheetF x y l)] ∧ L = []) := by
  subst hn
  refine Ct.of_body (rs := [.tmp 8, .tmp 9, .tmp 10, .tmp 11]) (N := 66) (L := []) Try.func24 rfl rfl rfl (by kernel_rfl) rfl (Mem.refl w) ?_
  refine HW.seq (HW.region [(0, .st), (1, .st), (2, .st), (3, .st)] rfl rfl ?_)
  refine Plan.assign (v := .int _ _) rfl rfl rfl ?_
  refine Plan.assign (v := .slice _ _ _) rfl rfl rfl ?_
  refine Plan.assign (v := .bool _) rfl rfl rfl ?_
  refine Plan.assign (v := .int _ _) rfl rfl rfl ?_
  refine Plan.done ?_
  refine HW.seq (HW.region [(0, .st), (1, .st), (2, .st), (3, .ef), (4, .st)] rfl rfl ?_)
  refine Plan.move (v := .int _ _) rfl rfl rfl ?_
  refine Plan.move (v := .int _ _) rfl rfl rfl ?_
  refine Plan.move (v := .slice _ _ _) rfl rfl rfl ?_
  refine Plan.callF [] 0 rfl rfl rfl (.inl rfl) (by simp) (fun w hm => Order_ct x y A l _ c w (hA.mem hm) rfl (by omega)) ?_   -- tinplate/tinplateref04.Order
  rintro v Ln ⟨rfl, rfl⟩
  refine Plan.assign (v := .int _ _) rfl rfl rfl ?_
  refine Plan.done ?_
  refine HW.seq ?_
  refine HW.seq (HW.region [(0, .st), (1, .st), (2, .st), (3, .st), (4, .st), (5, .st), (6, .st)] rfl rfl ?_)
  refine Plan.move (v := .int _ _) rfl rfl rfl ?_
  refine Plan.cmp2 rfl rfl rfl rfl rfl (fun h22 => ?_) (fun h22 => ?_)
  · replace h22 := of_decide_eq_true h22
    exact absurd h22 hs
  · replace h22 := of_decide_eq_false h22
    refine Plan.move (v := .bool _) rfl rfl rfl ?_
    refine Plan.no rfl rfl ?_
    refine Plan.no rfl rfl ?_
    refine Plan.no rfl rfl ?_
    refine Plan.pick (v := .bool _) rfl rfl rfl rfl ?_
    refine Plan.done ?_
    refine HW.cond_false rfl ?_
    refine HW.skip ?_
    refine HW.seq ?_
    refine HW.seq (HW.region [(0, .st), (1, .st)] rfl rfl ?_)
    refine Plan.move (v := .int _ _) rfl rfl rfl ?_
    refine Plan.cmp2 rfl rfl rfl rfl rfl (fun h29 => ?_) (fun h29 => ?_)
    · replace h29 := ne_of_t h29
      refine Plan.done ?_
      refine HW.cond_true rfl ?_
      refine HW.seq (HW.region [(0, .st), (1, .st), (2, .st), (3, .st), (4, .st)] rfl rfl ?_)
      refine Plan.move (v := .int _ _) rfl rfl rfl ?_
      refine Plan.assign (v := .int _ _) rfl rfl rfl ?_
      refine Plan.assign (v := .slice _ _ _) rfl rfl rfl ?_
      refine Plan.assign (v := .bool _) rfl rfl rfl ?_
      refine Plan.assign (v := .int _ _) rfl rfl rfl ?_
      refine Plan.done ?_
      exact HW.ret ⟨rfl, _, [], .tmp rfl (.tmp rfl (.tmp rfl (.tmp rfl .nil))), List.nil_sublist _, rfl, rfl⟩
    · replace h29 := eq_of_f h29
      exact absurd h29 hs

theorem WorthR_far (x y : Int) (A : Option Addr) (l : List It) (n c : Nat) (B : Option Addr) (pn pc : Nat) (w : World) (hA : Rd encT 3 w A l) (hn : n = l.length) (hlen : l.length ≤ 1000000) (hs : sheetF x y l = 0) (hp : 20001 < pn) :
    Ct P 24 #[int x, int y, .slice A n c, .slice B pn pc] w [] (fun r L => r = .tuple #[int 0, .slice none 0 0, .bool false, int 3] ∧ L = []) := by
  subst hn
  refine Ct.of_body (rs := [.tmp 8, .tmp 9, .tmp 10, .tmp 11]) (N := 66) (L := []) Try.func24 rfl rfl rfl (by kernel_rfl) rfl (Mem.refl w) ?_
  refine HW.seq (HW.region [(0, .st), (1, .st), (2, .st), (3, .st)] rfl rfl ?_)
  refine Plan.assign (v := .int _ _) rfl rfl rfl ?_
  refine Plan.assign (v := .slice _ _ _) rfl rfl rfl ?_
  refine Plan.assign (v := .bool _) rfl rfl rfl ?_
  refine Plan.assign (v := .int _ _) rfl rfl rfl ?_
  refine Plan.done ?_
  refine HW.seq (HW.region [(0, .st), (1, .st), (2, .st), (3, .ef), (4, .st)] rfl rfl ?_)
  refine Plan.move (v := .int _ _) rfl rfl rfl ?_
  refine Plan.move (v := .int _ _) rfl rfl rfl ?_
  refine Plan.move (v := .slice _ _ _) rfl rfl rfl ?_
  refine Plan.callF [] 0 rfl rfl rfl (.inl rfl) (by simp) (fun w hm => Order_ct x y A l _ c w (hA.mem hm) rfl (by omega)) ?_   -- tinplate/tinplateref04.Order
  rintro v Ln ⟨rfl, rfl⟩
  refine Plan.assign (v := .int _ _) rfl rfl rfl ?_
  refine Plan.done ?_
  refine HW.seq ?_
  refine HW.seq (HW.region [(0, .st), (1, .st), (2, .st), (3, .st), (4, .st), (5, .st), (6, .st)] rfl rfl ?_)
  refine Plan.move (v := .int _ _) rfl rfl rfl ?_
  refine Plan.cmp2 rfl rfl rfl rfl rfl (fun h22 => ?_) (fun h22 => ?_)
  · replace h22 := of_decide_eq_true h22
    refine Plan.move (v := .bool _) rfl rfl rfl ?_
    refine Plan.move (v := .slice _ _ _) rfl rfl rfl ?_
    refine Plan.len rfl rfl slapiCut rfl ?_
    refine Plan.cmp2 rfl rfl rfl rfl rfl (fun h26 => ?_) (fun h26 => ?_)
    · replace h26 := of_decide_eq_true h26
      refine Plan.pick (v := .bool _) rfl rfl rfl rfl ?_
      refine Plan.done ?_
      refine HW.cond_true rfl ?_
      refine HW.region [(0, .st)] rfl rfl ?_
      refine Plan.assign (v := .int _ _) rfl rfl rfl ?_
      refine Plan.done ?_
      refine HW.seq ?_
      refine HW.seq (HW.region [(0, .st), (1, .st)] rfl rfl ?_)
      refine Plan.move (v := .int _ _) rfl rfl rfl ?_
      refine Plan.cmp2 rfl rfl rfl rfl rfl (fun h29 => ?_) (fun h29 => ?_)
      · replace h29 := ne_of_t h29
        refine Plan.done ?_
        refine HW.cond_true rfl ?_
        refine HW.seq (HW.region [(0, .st), (1, .st), (2, .st), (3, .st), (4, .st)] rfl rfl ?_)
        refine Plan.move (v := .int _ _) rfl rfl rfl ?_
        refine Plan.assign (v := .int _ _) rfl rfl rfl ?_
        refine Plan.assign (v := .slice _ _ _) rfl rfl rfl ?_
        refine Plan.assign (v := .bool _) rfl rfl rfl ?_
        refine Plan.assign (v := .int _ _) rfl rfl rfl ?_
        refine Plan.done ?_
        exact HW.ret ⟨rfl, _, [], .tmp rfl (.tmp rfl (.tmp rfl (.tmp rfl .nil))), List.nil_sublist _, rfl, rfl⟩
      · replace h29 := eq_of_f h29
        exact absurd h29 (by decide)
    · replace h26 := of_decide_eq_false h26
      omega
  · replace h22 := of_decide_eq_false h22
    exact absurd hs h22

theorem rread_call {w0 w : World} {A B : Option Addr} {l : List It} {p : List Ct2} {c pc a b mb : Nat} (hA : Rd encT 3 w0 A l) (hB : Rd enc 2 w0 B p) (hp : p.length ≤ 20001) (ha : 0 < a) (hb : 0 < b) (ha2 : a ≤ 100) (hb2 : b ≤ 100) (hlen : l.length ≤ 10)
    (hm : Mem w0 [] [ownI (some mb) l.length (List.replicate l.length 0)] w) :
    Ct P 54 #[int a, int b, .slice A l.length c, .slice B p.length pc, int 0, slv (some mb) l.length l.length] w [mb] (RefR l mb l.length p.length p (List.replicate l.length 0) a b) := by
  have hX : ∀ b ∈ [mb], w0.heap.size ≤ b := fun x hx => by
    obtain rfl := List.mem_singleton.1 hx
    exact Mem.new hm (r := ownI (some x) l.length (List.replicate l.length 0)) (by simp) (by simp [Res.own])
  exact rread_ct l A c mb l.length p B pc hp hlen (p.length + 1) 0 (List.replicate l.length 0) a b w (by omega) (by omega) ha hb ha2 hb2 (hA.mem hm) (hA.off (fun _ => by simp) hX) (hB.mem hm) (hB.off (fun _ => by simp) hX)
    (hm.res (ownI (some mb) l.length (List.replicate l.length 0)) (by simp)) (by simp) (fun y hy => by rw [List.eq_of_mem_replicate hy]; omega)

theorem WorthR_bad (A : Option Addr) (l : List It) (n c : Nat) (B : Option Addr) (p : List Ct2) (pn pc a b : Nat) (w : World) (hA : Rd encT 3 w A l) (hn : n = l.length) (hB : Rd enc 2 w B p) (hpn : pn = p.length) (hp : p.length ≤ 20001)
    (ha : 0 < a) (hb : 0 < b) (ha2 : a ≤ 100) (hb2 : b ≤ 100) (hlen : l.length ≤ 10) (hl : l.any badI = false) (ho : outP l a b p = none) :
    Ct P 24 #[int a, int b, .slice A n c, .slice B pn pc] w [] (fun r L => r = .tuple #[int 0, .slice none 0 0, .bool false, int 0] ∧ L = []) := by
  subst hn hpn
  have hs : sheetF (a : Int) (b : Int) l = 0 := by rw [sheetF, if_neg (by omega), if_neg (by omega), if_neg (by rw [hl]; decide)]
  refine Ct.of_body (rs := [.tmp 8, .tmp 9, .tmp 10, .tmp 11]) (N := 66) (L := []) Try.func24 rfl rfl rfl (by kernel_rfl) rfl (Mem.refl w) ?_
  refine HW.seq (HW.region [(0, .st), (1, .st), (2, .st), (3, .st)] rfl rfl ?_)
  refine Plan.assign (v := .int _ _) rfl rfl rfl ?_
  refine Plan.assign (v := .slice _ _ _) rfl rfl rfl ?_
  refine Plan.assign (v := .bool _) rfl rfl rfl ?_
  refine Plan.assign (v := .int _ _) rfl rfl rfl ?_
  refine Plan.done ?_
  refine HW.seq (HW.region [(0, .st), (1, .st), (2, .st), (3, .ef), (4, .st)] rfl rfl ?_)
  refine Plan.move (v := .int _ _) rfl rfl rfl ?_
  refine Plan.move (v := .int _ _) rfl rfl rfl ?_
  refine Plan.move (v := .slice _ _ _) rfl rfl rfl ?_
  refine Plan.callF [] 0 rfl rfl rfl (.inl rfl) (by simp) (fun w hm => Order_ct a b A l _ c w (hA.mem hm) rfl (by omega)) ?_   -- tinplate/tinplateref04.Order
  rintro v Ln ⟨rfl, rfl⟩
  refine Plan.assign (v := .int _ _) rfl rfl rfl ?_
  refine Plan.done ?_
  refine HW.seq ?_
  refine HW.seq (HW.region [(0, .st), (1, .st), (2, .st), (3, .st), (4, .st), (5, .st), (6, .st)] rfl rfl ?_)
  refine Plan.move (v := .int _ _) rfl rfl rfl ?_
  refine Plan.cmp2 rfl rfl rfl rfl rfl (fun h22 => ?_) (fun h22 => ?_)
  · replace h22 := of_decide_eq_true h22
    refine Plan.move (v := .bool _) rfl rfl rfl ?_
    refine Plan.move (v := .slice _ _ _) rfl rfl rfl ?_
    refine Plan.len rfl rfl slapiCut rfl ?_
    refine Plan.cmp2 rfl rfl rfl rfl rfl (fun h26 => ?_) (fun h26 => ?_)
    · replace h26 := of_decide_eq_true h26
      omega
    · replace h26 := of_decide_eq_false h26
      refine Plan.pick (v := .bool _) rfl rfl rfl rfl ?_
      refine Plan.done ?_
      refine HW.cond_false rfl ?_
      refine HW.skip ?_
      refine HW.seq ?_
      refine HW.seq (HW.region [(0, .st), (1, .st)] rfl rfl ?_)
      refine Plan.move (v := .int _ _) rfl rfl rfl ?_
      refine Plan.cmp2 rfl rfl rfl rfl rfl (fun h29 => ?_) (fun h29 => ?_)
      · replace h29 := ne_of_t h29
        exact absurd hs h29
      · replace h29 := eq_of_f h29
        refine Plan.done ?_
        refine HW.cond_false rfl ?_
        refine HW.skip ?_
        refine HW.seq (HW.region [(0, .st), (1, .st), (2, .st), (3, .st), (4, .st), (5, .st), (6, .ef), (7, .ef), (8, .st), (9, .st), (10, .st), (11, .st), (12, .st)] rfl rfl ?_)
        refine Plan.move (v := .int _ _) rfl rfl rfl ?_
        refine Plan.move (v := .int _ _) rfl rfl rfl ?_
        refine Plan.move (v := .slice _ _ _) rfl rfl rfl ?_
        refine Plan.move (v := .slice _ _ _) rfl rfl rfl ?_
        refine Plan.move (v := .slice _ _ _) rfl rfl rfl ?_
        refine Plan.len rfl rfl slapiItem rfl ?_
        refine Plan.makeOwn (enc := encI) (sz := 1) 0 (l.length) rfl rfl slI infI rfl (by decide) rfl rfl rfl (by omega) (by omega) fun b38 => ?_
        refine Plan.callF [b38] 1 rfl rfl rfl (.inr hDn) (by simp [Res.own]) (fun w hm => rread_call hA hB hp ha hb ha2 hb2 hlen hm) ?_   -- tinplate/tinplateref04.read
        rintro v Ln ⟨e1, m1, rfl, rfl, g1, g2⟩
        refine Plan.move (v := .tuple _) rfl rfl rfl ?_
        refine Plan.extract (v := .int _ _) rfl rfl rfl rfl ?_
        refine Plan.extract (v := .slice _ _ _) rfl rfl rfl rfl ?_
        refine Plan.assign (v := .int _ _) rfl rfl rfl ?_
        refine Plan.assign (v := .slice _ _ _) rfl rfl rfl ?_
        refine Plan.done ?_
        refine HW.seq ?_
        refine HW.seq (HW.region [(0, .st), (1, .st), (2, .st), (3, .st)] rfl rfl ?_)
        refine Plan.move (v := .int _ _) rfl rfl rfl ?_
        refine Plan.move (v := .slice _ _ _) rfl rfl rfl ?_
        refine Plan.len rfl rfl slapiCut rfl ?_
        refine Plan.cmp2 rfl rfl rfl rfl rfl (fun h45 => ?_) (fun h45 => ?_)
        · replace h45 := ne_of_t h45
          refine Plan.done ?_
          refine HW.cond_true rfl ?_
          refine HW.seq (HW.region [(0, .st), (1, .st), (2, .st), (3, .st)] rfl rfl ?_)
          refine Plan.assign (v := .int _ _) rfl rfl rfl ?_
          refine Plan.assign (v := .slice _ _ _) rfl rfl rfl ?_
          refine Plan.assign (v := .bool _) rfl rfl rfl ?_
          refine Plan.assign (v := .int _ _) rfl rfl rfl ?_
          refine Plan.done ?_
          exact HW.ret ⟨rfl, _, [], .tmp rfl (.tmp rfl (.tmp rfl (.tmp rfl .nil))), List.nil_sublist _, rfl, rfl⟩
        · replace h45 := eq_of_f h45
          cases h : rdP l a b p with
          | none => have := g1 h; omega
          | some z =>
            obtain ⟨p1, u⟩ := z
            have h1 := (g2 p1 u h).1
            rw [List.eq_nil_of_length_eq_zero (show p1.length = 0 by omega)] at h
            exact absurd h (outP_none ho)
  · replace h22 := of_decide_eq_false h22
    exact absurd hs h22

set_option maxRecDepth 100000 in
theorem WorthR_ok0 (A : Option Addr) (l : List It) (n c : Nat) (B : Option Addr) (p : List Ct2) (pn pc a b : Nat) (u : List Nat) (w : World) (hA : Rd encT 3 w A l) (hn : n = l.length) (hB : Rd enc 2 w B p) (hpn : pn = p.length) (hp : p.length ≤ 20001)
    (ha : 0 < a) (hb : 0 < b) (ha2 : a ≤ 100) (hb2 : b ≤ 100) (hlen : l.length ≤ 10) (hl : l.any badI = false) (ho : outP l a b p = some u) :
    Ct P 24 #[int a, int b, .slice A n c, .slice B pn pc] w [] (fun r L => ∃ mb m, r = .tuple #[int (dotM l m l.length), slv (some mb) l.length l.length, .bool true, int 0] ∧ L = [ownI (some mb) l.length m] ∧ m = addU (List.replicate l.length 0) u) := by
  subst hn hpn
  have hs : sheetF (a : Int) (b : Int) l = 0 := by rw [sheetF, if_neg (by omega), if_neg (by omega), if_neg (by rw [hl]; decide)]
  have he := outP_some.1 ho
  have hu := rdP_use he
  refine Ct.of_body (rs := [.tmp 8, .tmp 9, .tmp 10, .tmp 11]) (N := 66) (L := []) Try.func24 rfl rfl rfl (by kernel_rfl) rfl (Mem.refl w) ?_
  refine HW.seq (HW.region [(0, .st), (1, .st), (2, .st), (3, .st)] rfl rfl ?_)
  refine Plan.assign (v := .int _ _) rfl rfl rfl ?_
  refine Plan.assign (v := .slice _ _ _) rfl rfl rfl ?_
  refine Plan.assign (v := .bool _) rfl rfl rfl ?_
  refine Plan.assign (v := .int _ _) rfl rfl rfl ?_
  refine Plan.done ?_
  refine HW.seq (HW.region [(0, .st), (1, .st), (2, .st), (3, .ef), (4, .st)] rfl rfl ?_)
  refine Plan.move (v := .int _ _) rfl rfl rfl ?_
  refine Plan.move (v := .int _ _) rfl rfl rfl ?_
  refine Plan.move (v := .slice _ _ _) rfl rfl rfl ?_
  refine Plan.callF [] 0 rfl rfl rfl (.inl rfl) (by simp) (fun w hm => Order_ct a b A l _ c w (hA.mem hm) rfl (by omega)) ?_   -- tinplate/tinplateref04.Order
  rintro v Ln ⟨rfl, rfl⟩
  refine Plan.assign (v := .int _ _) rfl rfl rfl ?_
  refine Plan.done ?_
  refine HW.seq ?_
  refine HW.seq (HW.region [(0, .st), (1, .st), (2, .st), (3, .st), (4, .st), (5, .st), (6, .st)] rfl rfl ?_)
  refine Plan.move (v := .int _ _) rfl rfl rfl ?_
  refine Plan.cmp2 rfl rfl rfl rfl rfl (fun h22 => ?_) (fun h22 => ?_)
  · replace h22 := of_decide_eq_true h22
    refine Plan.move (v := .bool _) rfl rfl rfl ?_
    refine Plan.move (v := .slice _ _ _) rfl rfl rfl ?_
    refine Plan.len rfl rfl slapiCut rfl ?_
    refine Plan.cmp2 rfl rfl rfl rfl rfl (fun h26 => ?_) (fun h26 => ?_)
    · replace h26 := of_decide_eq_true h26
      omega
    · replace h26 := of_decide_eq_false h26
      refine Plan.pick (v := .bool _) rfl rfl rfl rfl ?_
      refine Plan.done ?_
      refine HW.cond_false rfl ?_
      refine HW.skip ?_
      refine HW.seq ?_
      refine HW.seq (HW.region [(0, .st), (1, .st)] rfl rfl ?_)
      refine Plan.move (v := .int _ _) rfl rfl rfl ?_
      refine Plan.cmp2 rfl rfl rfl rfl rfl (fun h29 => ?_) (fun h29 => ?_)
      · replace h29 := ne_of_t h29
        exact absurd hs h29
      · replace h29 := eq_of_f h29
        refine Plan.done ?_
        refine HW.cond_false rfl ?_
        refine HW.skip ?_
        refine HW.seq (HW.region [(0, .st), (1, .st), (2, .st), (3, .st), (4, .st), (5, .st), (6, .ef), (7, .ef), (8, .st), (9, .st), (10, .st), (11, .st), (12, .st)] rfl rfl ?_)
        refine Plan.move (v := .int _ _) rfl rfl rfl ?_
        refine Plan.move (v := .int _ _) rfl rfl rfl ?_
        refine Plan.move (v := .slice _ _ _) rfl rfl rfl ?_
        refine Plan.move (v := .slice _ _ _) rfl rfl rfl ?_
        refine Plan.move (v := .slice _ _ _) rfl rfl rfl ?_
        refine Plan.len rfl rfl slapiItem rfl ?_
        refine Plan.makeOwn (enc := encI) (sz := 1) 0 (l.length) rfl rfl slI infI rfl (by decide) rfl rfl rfl (by omega) (by omega) fun b38 => ?_
        refine Plan.callF [b38] 1 rfl rfl rfl (.inr hDn) (by simp [Res.own]) (fun w hm => rread_call hA hB hp ha hb ha2 hb2 hlen hm) ?_   -- tinplate/tinplateref04.read
        rintro v Ln ⟨e1, m, rfl, rfl, g1, g2⟩
        obtain ⟨rfl, hmd⟩ := g2 [] u he
        have hml : m.length = l.length := by rw [hmd, addU_len]; simp
        have hm0 : ∀ x ∈ m, 0 ≤ x ∧ x ≤ 20001 := by
          rw [hmd]
          exact addU_bd u _ (fun x hx => by
            rw [List.eq_of_mem_replicate hx]
            have := hu.1
            simp only [List.length_nil] at this
            omega) (by decide)
        refine Plan.move (v := .tuple _) rfl rfl rfl ?_
        refine Plan.extract (v := .int _ _) rfl rfl rfl rfl ?_
        refine Plan.extract (v := .slice _ _ _) rfl rfl rfl rfl ?_
        refine Plan.assign (v := .int _ _) rfl rfl rfl ?_
        refine Plan.assign (v := .slice _ _ _) rfl rfl rfl ?_
        refine Plan.done ?_
        refine HW.seq ?_
        refine HW.seq (HW.region [(0, .st), (1, .st), (2, .st), (3, .st)] rfl rfl ?_)
        refine Plan.move (v := .int _ _) rfl rfl rfl ?_
        refine Plan.move (v := .slice _ _ _) rfl rfl rfl ?_
        refine Plan.len rfl rfl slapiCut rfl ?_
        refine Plan.cmp2 rfl rfl rfl rfl rfl (fun h45 => ?_) (fun h45 => ?_)
        · replace h45 := ne_of_t h45
          exact absurd (by simp) h45
        · replace h45 := eq_of_f h45
          refine Plan.done ?_
          refine HW.cond_false rfl ?_
          refine HW.skip ?_
          refine HW.seq (HW.region [(0, .st)] rfl rfl ?_)
          refine Plan.assign (v := .int _ _) rfl rfl rfl ?_
          refine Plan.done ?_
          refine HW.seq ?_
          refine HW.seq (HW.region [(0, .st)] rfl rfl ?_)
          refine Plan.assign (v := .int _ _) rfl rfl rfl ?_
          refine Plan.done ?_
          refine HW.block ?_
          refine HW.loopC (G := Nat) [15, 16, 46, 47, 48, 49, 50, 51, 52, 53, 54, 55, 56, 57, 58, 59, 60, 61, 62, 63] (fun g => [(15, int (dotM l m g)), (16, int g)]) (fun g => g ≤ l.length) (fun g => l.length - g) (0) ⟨rfl, rfl, trivial⟩ (Nat.zero_le _) (fun g F hok => ?_)
          refine HW.seq ?_
          refine HW.seq (HW.region [(0, .st), (1, .st), (2, .st), (3, .st)] rfl rfl ?_)
          refine Plan.move (v := .int _ _) rfl rfl rfl ?_
          refine Plan.move (v := .slice _ _ _) rfl rfl rfl ?_
          refine Plan.len rfl rfl slapiItem rfl ?_
          refine Plan.cmp2 rfl rfl rfl rfl rfl (fun h49 => ?_) (fun h49 => ?_)
          · replace h49 := of_decide_eq_true h49
            have hlt : g < l.length := by omega
            obtain ⟨ad, rfl, hl1⟩ := hA g hlt
            have hgm : g < m.length := by omega
            have e1 : m.getD g 0 = m[g] := by simp only [List.getD_eq_getElem?_getD, List.getElem?_eq_getElem hgm, Option.getD_some]
            have e2 : l.getD g (0, 0, 0) = l[g] := by simp only [List.getD_eq_getElem?_getD, List.getElem?_eq_getElem hlt, Option.getD_some]
            have hmg := hm0 m[g] (List.getElem_mem hgm)
            have hv := badI_val hl l[g] (List.getElem_mem hlt)
            have b1 := dotM_bd hm0 (badI_val hl) g
            have p1 := Int.mul_nonneg hmg.1 hv.1
            have p2 : m[g] * l[g].2.2 ≤ 20001 * 1048576 := Int.mul_le_mul hmg.2 hv.2 hv.1 (by decide)
            refine Plan.done ?_
            refine HW.cond_true rfl ?_
            refine HW.skip ?_
            refine HW.seq ?_
            refine HW.block ?_
            refine HW.region_any [] [(0, .st), (1, .st), (2, .st), (3, .st), (4, .st), (5, .st), (6, .st), (7, .st), (8, .st), (9, .st), (10, .st), (11, .st), (12, .st)] mix (by kernel_rfl) (fun _ _ _ _ _ h => h) (zeros rfl) ?_
            refine Plan.move (v := .int _ _) rfl rfl rfl ?_
            refine Plan.move (v := .slice _ _ _) rfl rfl rfl ?_
            refine Plan.move (v := .int _ _) rfl rfl rfl ?_
            refine Plan.indexN (g) rfl rfl slI sizI rfl rfl rfl rfl (hlt) ?_
            refine Plan.load (v := .int _ _) rfl rfl aggI rfl (Sees.own 0 encI1 rfl b38 rfl g hgm) ?_
            refine Plan.move (v := .slice _ _ _) rfl rfl rfl ?_
            refine Plan.move (v := .int _ _) rfl rfl rfl ?_
            refine Plan.indexN (g) rfl rfl slapiItem sizapiItem rfl rfl rfl rfl (hlt) ?_
            refine Plan.fieldAddr rfl rfl fldItem2 rfl ?_
            refine Plan.load (v := .int _ _) rfl rfl aggI rfl (Sees.nth (Sees.old hl1 (by simp)) 2 rfl) ?_
            refine Plan.arithI rfl rfl rfl rfl rfl (by omega) ?_
            refine Plan.arithI rfl rfl rfl rfl rfl (by omega) ?_
            refine Plan.assign (v := .int _ _) rfl rfl rfl ?_
            refine Plan.done ?_
            refine HW.region [(0, .st), (1, .st), (2, .st)] rfl rfl ?_
            refine Plan.move (v := .int _ _) rfl rfl rfl ?_
            refine Plan.arithI rfl rfl rfl rfl rfl (by omega) ?_
            refine Plan.assign (v := .int _ _) rfl rfl rfl ?_
            refine Plan.done ?_
            exact ⟨g + 1, by simp only; omega, hlt, rfl, Ent.sub (.refl _), (by repeat (first | exact Agree.havoc _ _ _ | refine Agree.updN ?_ | refine Agree.upd rfl ?_ | refine Agree.updL rfl ?_ | refine Agree.havoc2 rfl ?_)), ⟨int_eq (by rw [dotM, e1, e2]), rfl, trivial⟩⟩
          · replace h49 := of_decide_eq_false h49
            have hke : g = l.length := by omega
            subst hke
            refine Plan.done ?_
            refine HW.cond_false rfl ?_
            refine HW.exit ?_
            refine HW.seq (HW.region [(0, .st), (1, .st), (2, .st), (3, .st), (4, .st), (5, .st)] rfl rfl ?_)
            refine Plan.move (v := .int _ _) rfl rfl rfl ?_
            refine Plan.move (v := .slice _ _ _) rfl rfl rfl ?_
            refine Plan.assign (v := .int _ _) rfl rfl rfl ?_
            refine Plan.assign (v := .slice _ _ _) rfl rfl rfl ?_
            refine Plan.assign (v := .bool _) rfl rfl rfl ?_
            refine Plan.assign (v := .int _ _) rfl rfl rfl ?_
            refine Plan.done ?_
            exact HW.ret ⟨rfl, _, [ownI (some b38) l.length m], .tmp rfl (.tmp rfl (.tmp rfl (.tmp rfl .nil))), .refl _, b38, m, rfl, rfl, hmd⟩
  · replace h22 := of_decide_eq_false h22
    exact absurd hs h22

theorem WorthR_ok (A : Option Addr) (l : List It) (n c : Nat) (B : Option Addr) (p : List Ct2) (pn pc a b : Nat) (u : List Nat) (w : World) (hA : Rd encT 3 w A l) (hn : n = l.length) (hB : Rd enc 2 w B p) (hpn : pn = p.length) (hp : p.length ≤ 20001)
    (ha : 0 < a) (hb : 0 < b) (ha2 : a ≤ 100) (hb2 : b ≤ 100) (hlen : l.length ≤ 10) (hl : l.any badI = false) (ho : outP l a b p = some u) :
    Ct P 24 #[int a, int b, .slice A n c, .slice B pn pc] w [] (fun r L => ∃ mb, r = .tuple #[int (valU l u), slv (some mb) l.length l.length, .bool true, int 0] ∧ L = [ownI (some mb) l.length (addU (List.replicate l.length 0) u)]) := by
  refine (WorthR_ok0 A l n c B p pn pc a b u w hA hn hB hpn hp ha hb ha2 hb2 hlen hl ho).mono ?_
  rintro r L ⟨mb, m, rfl, rfl, hmd⟩
  subst hmd
  have hu := rdP_use (outP_some.1 ho)
  exact ⟨mb, by rw [dotM_addU l u _ (by simp) hu.2, dotM_zero, Int.zero_add], rfl⟩

/-- what Worth returns -/
def wOut (x y : Int) (l : List It) (p : List Ct2) : Int × List Int × Bool × Int :=
  if sheetF x y l ≠ 0 then (0, [], false, sheetF x y l) else if 20001 < p.length then (0, [], false, 3) else match outP l x.toNat y.toNat p with
    | none => (0, [], false, 0)
    | some u => (valU l u, addU (List.replicate l.length 0) u, true, 0)

theorem Ct_nilI {f : FuncId} {args : Array Value} {w : World} {R : Value → Prop} (h : Ct P f args w [] (fun r L => R r ∧ L = [])) : Ct P f args w [] (fun r L => R r ∧ L = [ownI none 0 []]) :=
  ⟨h.1, Calls.mono h.2 fun _ _ ⟨v, L, h1, h2, h3, h4⟩ => ⟨v, [ownI none 0 []], h1, by subst h4; exact h2.addNil, h3, rfl⟩⟩

theorem wOut_cases (x y : Int) (l : List It) (p : List Ct2) {f : FuncId} {args : Array Value} {w : World} {v : Int} {xs : List Int} {is : Bool} {e : Int} (hw : wOut x y l p = (v, xs, is, e))
    (h1 : sheetF x y l ≠ 0 → Ct P f args w [] (fun r L => r = .tuple #[int 0, .slice none 0 0, .bool false, int (sheetF x y l)] ∧ L = []))
    (h2 : sheetF x y l = 0 → 20001 < p.length → Ct P f args w [] (fun r L => r = .tuple #[int 0, .slice none 0 0, .bool false, int 3] ∧ L = []))
    (h3 : ∀ a b : Nat, x = a → y = b → 0 < a → 0 < b → a ≤ 100 → b ≤ 100 → l.length ≤ 10 → l.any badI = false → p.length ≤ 20001 → outP l a b p = none → Ct P f args w [] (fun r L => r = .tuple #[int 0, .slice none 0 0, .bool false, int 0] ∧ L = []))
    (h4 : ∀ (a b : Nat) (u : List Nat), x = a → y = b → 0 < a → 0 < b → a ≤ 100 → b ≤ 100 → l.length ≤ 10 → l.any badI = false → p.length ≤ 20001 → outP l a b p = some u → Ct P f args w [] (fun r L => ∃ mb, r = .tuple #[int (valU l u), slv (some mb) l.length l.length, .bool true, int 0] ∧ L = [ownI (some mb) l.length (addU (List.replicate l.length 0) u)])) :
    Ct P f args w [] (fun r L => ∃ o c', r = .tuple #[int v, slv o xs.length c', .bool is, int e] ∧ L = [ownI o c' xs]) := by
  unfold wOut at hw
  by_cases hs : sheetF x y l = 0
  · rw [if_neg (by simpa using hs)] at hw
    by_cases hp : 20001 < p.length
    · rw [if_pos hp] at hw
      cases hw
      exact (Ct_nilI (h2 hs hp)).mono fun r L ⟨hr, hL⟩ => ⟨none, 0, hr, hL⟩
    · rw [if_neg hp] at hw
      obtain ⟨x1, x2, y1, y2, hlen, hl⟩ := sheetF_ok hs
      obtain ⟨a, rfl⟩ := Int.eq_ofNat_of_zero_le (show 0 ≤ x by omega)
      obtain ⟨b, rfl⟩ := Int.eq_ofNat_of_zero_le (show 0 ≤ y by omega)
      simp only [Int.toNat_natCast] at hw
      cases ho : outP l a b p with
      | none =>
        rw [ho] at hw
        cases hw
        exact (Ct_nilI (h3 a b rfl rfl (by omega) (by omega) (by omega) (by omega) hlen hl (by omega) ho)).mono fun r L ⟨hr, hL⟩ => ⟨none, 0, hr, hL⟩
      | some u =>
        rw [ho] at hw
        cases hw
        refine (h4 a b u rfl rfl (by omega) (by omega) (by omega) (by omega) hlen hl (by omega) ho).mono ?_
        rintro r L ⟨mb, rfl, rfl⟩
        exact ⟨some mb, l.length, by rw [addU_len, List.length_replicate], rfl⟩
  · rw [if_pos hs] at hw
    cases hw
    exact (Ct_nilI (h1 hs)).mono fun r L ⟨hr, hL⟩ => ⟨none, 0, hr, hL⟩

theorem WorthB_ct (x y : Int) (A : Option Addr) (l : List It) (n c : Nat) (B : Option Addr) (p : List Ct2) (pn pc : Nat) (w : World) (hA : Rd encT 3 w A l) (hn : n = l.length) (hlen : l.length ≤ 1000000) (hB : Rd enc 2 w B p) (hpn : pn = p.length) (hpc : p.length ≤ pc)
    {v : Int} {xs : List Int} {is : Bool} {e : Int} (hw : wOut x y l p = (v, xs, is, e)) :
    Ct P 23 #[int x, int y, .slice A n c, .slice B pn pc] w [] (fun r L => ∃ o c', r = .tuple #[int v, slv o xs.length c', .bool is, int e] ∧ L = [ownI o c' xs]) :=
  wOut_cases x y l p hw (fun hs => WorthB_no x y A l n c B p pn pc w hA hn hlen hs) (fun hs hp => WorthB_far x y A l n c B pn pc w hA hn hlen hs (by omega))
    (fun a b hx hy ha hb ha2 hb2 hl hbd hp ho => by subst hx hy; exact WorthB_bad A l n c B p pn pc a b w hA hn hB hpn hpc hp ha hb ha2 hb2 hl hbd ho)
    (fun a b u hx hy ha hb ha2 hb2 hl hbd hp ho => by subst hx hy; exact WorthB_ok A l n c B p pn pc a b u w hA hn hB hpn hpc hp ha hb ha2 hb2 hl hbd ho)
theorem WorthR_ct (x y : Int) (A : Option Addr) (l : List It) (n c : Nat) (B : Option Addr) (p : List Ct2) (pn pc : Nat) (w : World) (hA : Rd encT 3 w A l) (hn : n = l.length) (hlen : l.length ≤ 1000000) (hB : Rd enc 2 w B p) (hpn : pn = p.length)
    {v : Int} {xs : List Int} {is : Bool} {e : Int} (hw : wOut x y l p = (v, xs, is, e)) :
    Ct P 24 #[int x, int y, .slice A n c, .slice B pn pc] w [] (fun r L => ∃ o c', r = .tuple #[int v, slv o xs.length c', .bool is, int e] ∧ L = [ownI o c' xs]) :=
  wOut_cases x y l p hw (fun hs => WorthR_no x y A l n c B pn pc w hA hn hlen hs) (fun hs hp => WorthR_far x y A l n c B pn pc w hA hn hlen hs (by omega))
    (fun a b hx hy ha hb ha2 hb2 hl hbd hp ho => by subst hx hy; exact WorthR_bad A l n c B p pn pc a b w hA hn hB hpn hp ha hb ha2 hb2 hl hbd ho)
    (fun a b u hx hy ha hb ha2 hb2 hl hbd hp ho => by subst hx hy; exact WorthR_ok A l n c B p pn pc a b u w hA hn hB hpn hp ha hb ha2 hb2 hl hbd ho)

theorem wOut_len {x y : Int} {l : List It} {p : List Ct2} {v : Int} {xs : List Int} {is : Bool} {e : Int} (hw : wOut x y l p = (v, xs, is, e)) : xs.length ≤ l.length := by
  unfold wOut at hw
  split at hw
  · cases hw; simp
  · split at hw
    · cases hw; simp
    · split at hw
      · cases hw; simp
      · cases hw; rw [addU_len]; simp

end Go.Proofs.Ytjmklbkcpjmcaaa.V
