/-
  BlankReads, its contract.
-/
import Derived.Test.YtjmklbkcpjmcaaaBh
namespace Go.Proofs.Ytjmklbkcpjmcaaa.V
open Go Go.RowKit Go.Proofs.Ytjmklbkcpjmcaaa.H Go.Proofs.Ytjmklbkcpjmcaaa.LL
set_option linter.unusedVariables false
set_option linter.unusedSimpArgs false

theorem undB : P.underlying 4 = some .bool := by kernel_rfl
theorem bsCut0 (w : World) : (Instr.buildSlice 32 0 #[]).run P w = .ok (.slice (some ⟨w.heap.size, 0, none⟩) 0 0) (w.alloc (.cells #[] 69 (0, 0))) := by kernel_rfl

theorem Reads_far (A B : Option Addr) (x y : Int) (l : List It) (p : List Ct2) (n c pn pc : Nat) (w : World) (hn : n = l.length) (hpn : pn = p.length) (hf : 30 < l.length ∨ (1000 < p.length ∧ p.length ≤ 20001) ∨ 21000 < p.length) :
    Ct P 7 #[int x, int y, .slice A n c, .slice B pn pc] w [] (fun r L => r = .bool true ∧ L = []) := by
  subst hn hpn
  refine Ct.of_body (rs := [.tmp 8]) (N := 86) (L := []) Try.func7 rfl rfl rfl (by kernel_rfl) rfl (Mem.refl w) ?_
  refine HW.seq (HW.region [(0, .st)] rfl rfl ?_)
  refine Plan.assign (v := .bool _) rfl rfl rfl ?_
  refine Plan.done ?_
  refine HW.seq ?_
  refine HW.seq (HW.region [(0, .st), (1, .st), (2, .st), (3, .st), (4, .st), (5, .st), (6, .st), (7, .st), (8, .st), (9, .st), (10, .st), (11, .st), (12, .st), (13, .st), (14, .st), (15, .st), (16, .st), (17, .st)] rfl rfl ?_)
  refine Plan.move (v := .slice _ _ _) rfl rfl rfl ?_
  refine Plan.len rfl rfl slapiItem rfl ?_
  refine Plan.cmp2 rfl rfl rfl rfl rfl (fun h20 => ?_) (fun h20 => ?_)
  · replace h20 := of_decide_eq_true h20
    refine Plan.move (v := .bool _) rfl rfl rfl ?_
    refine Plan.no rfl rfl ?_
    refine Plan.no rfl rfl ?_
    refine Plan.no rfl rfl ?_
    refine Plan.no rfl rfl ?_
    refine Plan.no rfl rfl ?_
    refine Plan.no rfl rfl ?_
    refine Plan.no rfl rfl ?_
    refine Plan.no rfl rfl ?_
    refine Plan.pick (v := .bool _) rfl rfl rfl rfl ?_
    refine Plan.move (v := .bool _) rfl rfl rfl ?_
    refine Plan.no rfl rfl ?_
    refine Plan.no rfl rfl ?_
    refine Plan.no rfl rfl ?_
    refine Plan.pick (v := .bool _) rfl rfl rfl rfl ?_
    refine Plan.done ?_
    refine HW.cond_true rfl ?_
    refine HW.seq (HW.region [(0, .ef), (1, .st)] rfl rfl ?_)
    refine Plan.callF [] 0 rfl rfl rfl (.inl rfl) (by simp) (fun w hm => alive_ct w) ?_   -- tinplate/tinplatelaw04.alive
    rintro v Ln ⟨rfl, rfl⟩
    refine Plan.splitB (fun h36 => ?_) (fun h36 => ?_)
    · skip
      refine Plan.assign (v := .bool _) rfl rfl rfl ?_
      refine Plan.done ?_
      exact HW.ret ⟨rfl, _, [], .tmp rfl .nil, List.nil_sublist _, rfl, rfl⟩
    · skip
      exact absurd h36 (by decide)
  · replace h20 := of_decide_eq_false h20
    refine Plan.move (v := .bool _) rfl rfl rfl ?_
    refine Plan.move (v := .slice _ _ _) rfl rfl rfl ?_
    refine Plan.len rfl rfl slapiCut rfl ?_
    refine Plan.cmp2 rfl rfl rfl rfl rfl (fun h24 => ?_) (fun h24 => ?_)
    · replace h24 := of_decide_eq_true h24
      refine Plan.move (v := .bool _) rfl rfl rfl ?_
      refine Plan.move (v := .slice _ _ _) rfl rfl rfl ?_
      refine Plan.len rfl rfl slapiCut rfl ?_
      refine Plan.cmp2 rfl rfl rfl rfl rfl (fun h28 => ?_) (fun h28 => ?_)
      · replace h28 := of_decide_eq_true h28
        refine Plan.pick (v := .bool _) rfl rfl rfl rfl ?_
        refine Plan.pick (v := .bool _) rfl rfl rfl rfl ?_
        refine Plan.move (v := .bool _) rfl rfl rfl ?_
        refine Plan.no rfl rfl ?_
        refine Plan.no rfl rfl ?_
        refine Plan.no rfl rfl ?_
        refine Plan.pick (v := .bool _) rfl rfl rfl rfl ?_
        refine Plan.done ?_
        refine HW.cond_true rfl ?_
        refine HW.seq (HW.region [(0, .ef), (1, .st)] rfl rfl ?_)
        refine Plan.callF [] 0 rfl rfl rfl (.inl rfl) (by simp) (fun w hm => alive_ct w) ?_   -- tinplate/tinplatelaw04.alive
        rintro v Ln ⟨rfl, rfl⟩
        refine Plan.splitB (fun h36 => ?_) (fun h36 => ?_)
        · skip
          refine Plan.assign (v := .bool _) rfl rfl rfl ?_
          refine Plan.done ?_
          exact HW.ret ⟨rfl, _, [], .tmp rfl .nil, List.nil_sublist _, rfl, rfl⟩
        · skip
          exact absurd h36 (by decide)
      · replace h28 := of_decide_eq_false h28
        refine Plan.pick (v := .bool _) rfl rfl rfl rfl ?_
        refine Plan.pick (v := .bool _) rfl rfl rfl rfl ?_
        refine Plan.move (v := .bool _) rfl rfl rfl ?_
        refine Plan.move (v := .slice _ _ _) rfl rfl rfl ?_
        refine Plan.len rfl rfl slapiCut rfl ?_
        refine Plan.cmp2 rfl rfl rfl rfl rfl (fun h34 => ?_) (fun h34 => ?_)
        · replace h34 := of_decide_eq_true h34
          refine Plan.pick (v := .bool _) rfl rfl rfl rfl ?_
          refine Plan.done ?_
          refine HW.cond_true rfl ?_
          refine HW.seq (HW.region [(0, .ef), (1, .st)] rfl rfl ?_)
          refine Plan.callF [] 0 rfl rfl rfl (.inl rfl) (by simp) (fun w hm => alive_ct w) ?_   -- tinplate/tinplatelaw04.alive
          rintro v Ln ⟨rfl, rfl⟩
          refine Plan.splitB (fun h36 => ?_) (fun h36 => ?_)
          · skip
            refine Plan.assign (v := .bool _) rfl rfl rfl ?_
            refine Plan.done ?_
            exact HW.ret ⟨rfl, _, [], .tmp rfl .nil, List.nil_sublist _, rfl, rfl⟩
          · skip
            exact absurd h36 (by decide)
        · replace h34 := of_decide_eq_false h34
          omega
    · replace h24 := of_decide_eq_false h24
      refine Plan.move (v := .bool _) rfl rfl rfl ?_
      refine Plan.no rfl rfl ?_
      refine Plan.no rfl rfl ?_
      refine Plan.no rfl rfl ?_
      refine Plan.pick (v := .bool _) rfl rfl rfl rfl ?_
      refine Plan.pick (v := .bool _) rfl rfl rfl rfl ?_
      refine Plan.move (v := .bool _) rfl rfl rfl ?_
      refine Plan.move (v := .slice _ _ _) rfl rfl rfl ?_
      refine Plan.len rfl rfl slapiCut rfl ?_
      refine Plan.cmp2 rfl rfl rfl rfl rfl (fun h34 => ?_) (fun h34 => ?_)
      · replace h34 := of_decide_eq_true h34
        refine Plan.pick (v := .bool _) rfl rfl rfl rfl ?_
        refine Plan.done ?_
        refine HW.cond_true rfl ?_
        refine HW.seq (HW.region [(0, .ef), (1, .st)] rfl rfl ?_)
        refine Plan.callF [] 0 rfl rfl rfl (.inl rfl) (by simp) (fun w hm => alive_ct w) ?_   -- tinplate/tinplatelaw04.alive
        rintro v Ln ⟨rfl, rfl⟩
        refine Plan.splitB (fun h36 => ?_) (fun h36 => ?_)
        · skip
          refine Plan.assign (v := .bool _) rfl rfl rfl ?_
          refine Plan.done ?_
          exact HW.ret ⟨rfl, _, [], .tmp rfl .nil, List.nil_sublist _, rfl, rfl⟩
        · skip
          exact absurd h36 (by decide)
      · replace h34 := of_decide_eq_false h34
        omega

set_option maxRecDepth 100000 in
set_option maxHeartbeats 1000000 in
theorem Reads_ok (A B : Option Addr) (x y : Int) (l : List It) (p : List Ct2) (n c pn pc : Nat) (w : World) (hA : Rd encT 3 w A l) (hB : Rd enc 2 w B p) (hn : n = l.length) (hpn : pn = p.length) (hpc : pn ≤ pc) (h30 : l.length ≤ 30) (hp1 : ¬ (1000 < p.length ∧ p.length ≤ 20001)) (hp2 : p.length ≤ 21000) :
    Ct P 7 #[int x, int y, .slice A n c, .slice B pn pc] w [] (fun r L => r = .bool true ∧ L = []) := by
  subst hn hpn
  obtain ⟨⟨v, xs, is, e⟩, hw⟩ : ∃ z, wOut x y l p = z := ⟨_, rfl⟩
  have hxl := wOut_len hw
  refine Ct.of_body (rs := [.tmp 8]) (N := 86) (L := []) Try.func7 rfl rfl rfl (by kernel_rfl) rfl (Mem.refl w) ?_
  refine HW.seq (HW.region [(0, .st)] rfl rfl ?_)
  refine Plan.assign (v := .bool _) rfl rfl rfl ?_
  refine Plan.done ?_
  refine HW.seq ?_
  refine HW.seq (HW.region [(0, .st), (1, .st), (2, .st), (3, .st), (4, .st), (5, .st), (6, .st), (7, .st), (8, .st), (9, .st), (10, .st), (11, .st), (12, .st), (13, .st), (14, .st), (15, .st), (16, .st), (17, .st)] rfl rfl ?_)
  refine Plan.move (v := .slice _ _ _) rfl rfl rfl ?_
  refine Plan.len rfl rfl slapiItem rfl ?_
  refine Plan.cmp2 rfl rfl rfl rfl rfl (fun h20 => ?_) (fun h20 => ?_)
  · replace h20 := of_decide_eq_true h20
    omega
  · replace h20 := of_decide_eq_false h20
    refine Plan.move (v := .bool _) rfl rfl rfl ?_
    refine Plan.move (v := .slice _ _ _) rfl rfl rfl ?_
    refine Plan.len rfl rfl slapiCut rfl ?_
    refine Plan.cmp2 rfl rfl rfl rfl rfl (fun h24 => ?_) (fun h24 => ?_)
    · replace h24 := of_decide_eq_true h24
      refine Plan.move (v := .bool _) rfl rfl rfl ?_
      refine Plan.move (v := .slice _ _ _) rfl rfl rfl ?_
      refine Plan.len rfl rfl slapiCut rfl ?_
      refine Plan.cmp2 rfl rfl rfl rfl rfl (fun h28 => ?_) (fun h28 => ?_)
      · replace h28 := of_decide_eq_true h28
        omega
      · replace h28 := of_decide_eq_false h28
        refine Plan.pick (v := .bool _) rfl rfl rfl rfl ?_
        refine Plan.pick (v := .bool _) rfl rfl rfl rfl ?_
        refine Plan.move (v := .bool _) rfl rfl rfl ?_
        refine Plan.move (v := .slice _ _ _) rfl rfl rfl ?_
        refine Plan.len rfl rfl slapiCut rfl ?_
        refine Plan.cmp2 rfl rfl rfl rfl rfl (fun h34 => ?_) (fun h34 => ?_)
        · replace h34 := of_decide_eq_true h34
          omega
        · replace h34 := of_decide_eq_false h34
          refine Plan.pick (v := .bool _) rfl rfl rfl rfl ?_
          refine Plan.done ?_
          refine HW.cond_false rfl ?_
          refine HW.skip ?_
          refine HW.seq (HW.region [(0, .ef), (1, .st), (2, .ef), (3, .st)] rfl rfl ?_)
          refine Plan.buildOwn (xs := ([] : List Ct2)) (enc := enc) (sz := 2) rfl rfl rfl (bsCut0) rfl rfl (by simp) rfl fun b37 => ?_
          refine Plan.move (v := .slice _ _ _) rfl rfl rfl ?_
          refine Plan.appendRd (enc := enc) (sz := 2) (ys := p) (0) rfl rfl hDn slapiCut infapiCut rfl (by decide) enc2 enc1 rfl rfl rfl rfl rfl (fun w hm => hB.mem hm) (by simp; omega) (by simp; omega) fun o39 c39 => ?_
          refine Plan.assign (v := .slice _ _ _) rfl rfl rfl ?_
          refine Plan.done ?_
          refine HW.seq (HW.region [(0, .st), (1, .st), (2, .st), (3, .st), (4, .ef), (5, .st), (6, .st), (7, .st), (8, .st), (9, .st), (10, .st), (11, .st), (12, .st), (13, .st)] rfl rfl ?_)
          refine Plan.move (v := .int _ _) rfl rfl rfl ?_
          refine Plan.move (v := .int _ _) rfl rfl rfl ?_
          refine Plan.move (v := .slice _ _ _) rfl rfl rfl ?_
          refine Plan.move (v := .slice _ _ _) rfl rfl rfl ?_
          refine Plan.callF [] 0 rfl rfl rfl (.inl rfl) (by simp) (fun w hm => WorthB_ct x y A l _ c (at0 o39) p _ c39 w (hA.mem hm) rfl (by omega) (Res.own_rd enc2 (hm.res (ownC o39 c39 ([] ++ p)) (by simp))) (by simp) (Res.own_cap (hm.res (ownC o39 c39 ([] ++ p)) (by simp))).1 hw) ?_   -- tinplate/blank.Worth
          rintro v Ln ⟨o1, c1, rfl, rfl⟩
          refine Plan.move (v := .tuple _) rfl rfl rfl ?_
          refine Plan.extract (v := .int _ _) rfl rfl rfl rfl ?_
          refine Plan.extract (v := .slice _ _ _) rfl rfl rfl rfl ?_
          refine Plan.extract (v := .bool _) rfl rfl rfl rfl ?_
          refine Plan.splitB (fun h48 => ?_) (fun h48 => ?_)
          · skip
            obtain rfl := h48
            refine Plan.extract (v := .int _ _) rfl rfl rfl rfl ?_
            refine Plan.assign (v := .int _ _) rfl rfl rfl ?_
            refine Plan.assign (v := .slice _ _ _) rfl rfl rfl ?_
            refine Plan.assign (v := .bool _) rfl rfl rfl ?_
            refine Plan.assign (v := .int _ _) rfl rfl rfl ?_
            refine Plan.done ?_
            refine HW.seq (HW.region [(0, .st), (1, .st), (2, .st), (3, .st), (4, .ef), (5, .st), (6, .st), (7, .st), (8, .st), (9, .st), (10, .st), (11, .st), (12, .st), (13, .st)] rfl rfl ?_)
            refine Plan.move (v := .int _ _) rfl rfl rfl ?_
            refine Plan.move (v := .int _ _) rfl rfl rfl ?_
            refine Plan.move (v := .slice _ _ _) rfl rfl rfl ?_
            refine Plan.move (v := .slice _ _ _) rfl rfl rfl ?_
            refine Plan.callF [] 0 rfl rfl rfl (.inl rfl) (by simp) (fun w hm => WorthR_ct x y A l _ c B p _ pc w (hA.mem hm) rfl (by omega) (hB.mem hm) rfl hw) ?_   -- tinplate/tinplateref04.Worth
            rintro v Ln ⟨o2, c2, rfl, rfl⟩
            refine Plan.move (v := .tuple _) rfl rfl rfl ?_
            refine Plan.extract (v := .int _ _) rfl rfl rfl rfl ?_
            refine Plan.extract (v := .slice _ _ _) rfl rfl rfl rfl ?_
            refine Plan.extract (v := .bool _) rfl rfl rfl rfl ?_
            refine Plan.extract (v := .int _ _) rfl rfl rfl rfl ?_
            refine Plan.assign (v := .int _ _) rfl rfl rfl ?_
            refine Plan.assign (v := .slice _ _ _) rfl rfl rfl ?_
            refine Plan.assign (v := .bool _) rfl rfl rfl ?_
            refine Plan.assign (v := .int _ _) rfl rfl rfl ?_
            refine Plan.done ?_
            refine HW.seq (HW.region [(0, .st), (1, .st), (2, .st), (3, .st), (4, .st), (5, .st), (6, .ef), (7, .st), (8, .st), (9, .st), (10, .st), (11, .st), (12, .st), (13, .st), (14, .st), (15, .st), (16, .st), (17, .st), (18, .st), (19, .st), (20, .st), (21, .ef), (22, .st), (23, .st), (24, .ef), (25, .st), (26, .st)] rfl rfl ?_)
            refine Plan.move (v := .int _ _) rfl rfl rfl ?_
            refine Plan.move (v := .int _ _) rfl rfl rfl ?_
            refine Plan.cmp2 rfl rfl rfl rfl rfl (fun h62 => ?_) (fun h62 => ?_)
            · replace h62 := of_decide_eq_true h62
              refine Plan.move (v := .bool _) rfl rfl rfl ?_
              refine Plan.move (v := .slice _ _ _) rfl rfl rfl ?_
              refine Plan.move (v := .slice _ _ _) rfl rfl rfl ?_
              refine Plan.callF [] 0 rfl rfl rfl (.inl rfl) (by simp) (fun w hm => numbers_ct (at0 o1) (at0 o2) xs xs _ _ c1 c2 w (Res.own_rd encI1 (hm.res (ownI o1 c1 xs) (by simp))) (Res.own_rd encI1 (hm.res (ownI o2 c2 xs) (by simp))) rfl rfl (by omega) rfl) ?_   -- tinplate/tinplatelaw04.numbers
              rintro v Ln ⟨rfl, rfl⟩
              refine Plan.splitB (fun h66 => ?_) (fun h66 => ?_)
              · skip
                refine Plan.pick (v := .bool _) rfl rfl rfl rfl ?_
                refine Plan.move (v := .bool _) rfl rfl rfl ?_
                refine Plan.move (v := .bool _) rfl rfl rfl ?_
                refine Plan.move (v := .bool _) rfl rfl rfl ?_
                refine Plan.eqB rfl rfl undB rfl rfl ?_
                refine Plan.pick (v := .bool _) rfl rfl rfl rfl ?_
                refine Plan.move (v := .bool _) rfl rfl rfl ?_
                refine Plan.move (v := .int _ _) rfl rfl rfl ?_
                refine Plan.move (v := .int _ _) rfl rfl rfl ?_
                refine Plan.cmp2 rfl rfl rfl rfl rfl (fun h76 => ?_) (fun h76 => ?_)
                · replace h76 := of_decide_eq_true h76
                  refine Plan.pick (v := .bool _) rfl rfl rfl rfl ?_
                  refine Plan.move (v := .bool _) rfl rfl rfl ?_
                  refine Plan.move (v := .slice _ _ _) rfl rfl rfl ?_
                  refine Plan.move (v := .slice _ _ _) rfl rfl rfl ?_
                  refine Plan.callF [] 0 rfl rfl rfl (.inl rfl) (by simp) (fun w hm => cuts_ct (at0 o39) B p p _ _ c39 pc w (Res.own_rd enc2 (hm.res (ownC o39 c39 ([] ++ p)) (by simp))) (hB.mem hm) (by simp) rfl (by omega) rfl) ?_   -- tinplate/tinplatelaw04.cuts
                  rintro v Ln ⟨rfl, rfl⟩
                  refine Plan.splitB (fun h81 => ?_) (fun h81 => ?_)
                  · skip
                    refine Plan.pick (v := .bool _) rfl rfl rfl rfl ?_
                    refine Plan.move (v := .bool _) rfl rfl rfl ?_
                    refine Plan.callF [] 0 rfl rfl rfl (.inl rfl) (by simp) (fun w hm => alive_ct w) ?_   -- tinplate/tinplatelaw04.alive
                    rintro v Ln ⟨rfl, rfl⟩
                    refine Plan.splitB (fun h84 => ?_) (fun h84 => ?_)
                    · skip
                      refine Plan.pick (v := .bool _) rfl rfl rfl rfl ?_
                      refine Plan.assign (v := .bool _) rfl rfl rfl ?_
                      refine Plan.done ?_
                      exact HW.ret ⟨rfl, _, [], .tmp rfl .nil, List.nil_sublist _, rfl, rfl⟩
                    · skip
                      exact absurd h84 (by decide)
                  · skip
                    exact absurd h81 (by decide)
                · replace h76 := of_decide_eq_false h76
                  exact absurd rfl h76
              · skip
                exact absurd h66 (by decide)
            · replace h62 := of_decide_eq_false h62
              exact absurd rfl h62
          · skip
            obtain rfl := h48
            refine Plan.extract (v := .int _ _) rfl rfl rfl rfl ?_
            refine Plan.assign (v := .int _ _) rfl rfl rfl ?_
            refine Plan.assign (v := .slice _ _ _) rfl rfl rfl ?_
            refine Plan.assign (v := .bool _) rfl rfl rfl ?_
            refine Plan.assign (v := .int _ _) rfl rfl rfl ?_
            refine Plan.done ?_
            refine HW.seq (HW.region [(0, .st), (1, .st), (2, .st), (3, .st), (4, .ef), (5, .st), (6, .st), (7, .st), (8, .st), (9, .st), (10, .st), (11, .st), (12, .st), (13, .st)] rfl rfl ?_)
            refine Plan.move (v := .int _ _) rfl rfl rfl ?_
            refine Plan.move (v := .int _ _) rfl rfl rfl ?_
            refine Plan.move (v := .slice _ _ _) rfl rfl rfl ?_
            refine Plan.move (v := .slice _ _ _) rfl rfl rfl ?_
            refine Plan.callF [] 0 rfl rfl rfl (.inl rfl) (by simp) (fun w hm => WorthR_ct x y A l _ c B p _ pc w (hA.mem hm) rfl (by omega) (hB.mem hm) rfl hw) ?_   -- tinplate/tinplateref04.Worth
            rintro v Ln ⟨o2, c2, rfl, rfl⟩
            refine Plan.move (v := .tuple _) rfl rfl rfl ?_
            refine Plan.extract (v := .int _ _) rfl rfl rfl rfl ?_
            refine Plan.extract (v := .slice _ _ _) rfl rfl rfl rfl ?_
            refine Plan.extract (v := .bool _) rfl rfl rfl rfl ?_
            refine Plan.extract (v := .int _ _) rfl rfl rfl rfl ?_
            refine Plan.assign (v := .int _ _) rfl rfl rfl ?_
            refine Plan.assign (v := .slice _ _ _) rfl rfl rfl ?_
            refine Plan.assign (v := .bool _) rfl rfl rfl ?_
            refine Plan.assign (v := .int _ _) rfl rfl rfl ?_
            refine Plan.done ?_
            refine HW.seq (HW.region [(0, .st), (1, .st), (2, .st), (3, .st), (4, .st), (5, .st), (6, .ef), (7, .st), (8, .st), (9, .st), (10, .st), (11, .st), (12, .st), (13, .st), (14, .st), (15, .st), (16, .st), (17, .st), (18, .st), (19, .st), (20, .st), (21, .ef), (22, .st), (23, .st), (24, .ef), (25, .st), (26, .st)] rfl rfl ?_)
            refine Plan.move (v := .int _ _) rfl rfl rfl ?_
            refine Plan.move (v := .int _ _) rfl rfl rfl ?_
            refine Plan.cmp2 rfl rfl rfl rfl rfl (fun h62 => ?_) (fun h62 => ?_)
            · replace h62 := of_decide_eq_true h62
              refine Plan.move (v := .bool _) rfl rfl rfl ?_
              refine Plan.move (v := .slice _ _ _) rfl rfl rfl ?_
              refine Plan.move (v := .slice _ _ _) rfl rfl rfl ?_
              refine Plan.callF [] 0 rfl rfl rfl (.inl rfl) (by simp) (fun w hm => numbers_ct (at0 o1) (at0 o2) xs xs _ _ c1 c2 w (Res.own_rd encI1 (hm.res (ownI o1 c1 xs) (by simp))) (Res.own_rd encI1 (hm.res (ownI o2 c2 xs) (by simp))) rfl rfl (by omega) rfl) ?_   -- tinplate/tinplatelaw04.numbers
              rintro v Ln ⟨rfl, rfl⟩
              refine Plan.splitB (fun h66 => ?_) (fun h66 => ?_)
              · skip
                refine Plan.pick (v := .bool _) rfl rfl rfl rfl ?_
                refine Plan.move (v := .bool _) rfl rfl rfl ?_
                refine Plan.move (v := .bool _) rfl rfl rfl ?_
                refine Plan.move (v := .bool _) rfl rfl rfl ?_
                refine Plan.eqB rfl rfl undB rfl rfl ?_
                refine Plan.pick (v := .bool _) rfl rfl rfl rfl ?_
                refine Plan.move (v := .bool _) rfl rfl rfl ?_
                refine Plan.move (v := .int _ _) rfl rfl rfl ?_
                refine Plan.move (v := .int _ _) rfl rfl rfl ?_
                refine Plan.cmp2 rfl rfl rfl rfl rfl (fun h76 => ?_) (fun h76 => ?_)
                · replace h76 := of_decide_eq_true h76
                  refine Plan.pick (v := .bool _) rfl rfl rfl rfl ?_
                  refine Plan.move (v := .bool _) rfl rfl rfl ?_
                  refine Plan.move (v := .slice _ _ _) rfl rfl rfl ?_
                  refine Plan.move (v := .slice _ _ _) rfl rfl rfl ?_
                  refine Plan.callF [] 0 rfl rfl rfl (.inl rfl) (by simp) (fun w hm => cuts_ct (at0 o39) B p p _ _ c39 pc w (Res.own_rd enc2 (hm.res (ownC o39 c39 ([] ++ p)) (by simp))) (hB.mem hm) (by simp) rfl (by omega) rfl) ?_   -- tinplate/tinplatelaw04.cuts
                  rintro v Ln ⟨rfl, rfl⟩
                  refine Plan.splitB (fun h81 => ?_) (fun h81 => ?_)
                  · skip
                    refine Plan.pick (v := .bool _) rfl rfl rfl rfl ?_
                    refine Plan.move (v := .bool _) rfl rfl rfl ?_
                    refine Plan.callF [] 0 rfl rfl rfl (.inl rfl) (by simp) (fun w hm => alive_ct w) ?_   -- tinplate/tinplatelaw04.alive
                    rintro v Ln ⟨rfl, rfl⟩
                    refine Plan.splitB (fun h84 => ?_) (fun h84 => ?_)
                    · skip
                      refine Plan.pick (v := .bool _) rfl rfl rfl rfl ?_
                      refine Plan.assign (v := .bool _) rfl rfl rfl ?_
                      refine Plan.done ?_
                      exact HW.ret ⟨rfl, _, [], .tmp rfl .nil, List.nil_sublist _, rfl, rfl⟩
                    · skip
                      exact absurd h84 (by decide)
                  · skip
                    exact absurd h81 (by decide)
                · replace h76 := of_decide_eq_false h76
                  exact absurd rfl h76
              · skip
                exact absurd h66 (by decide)
            · replace h62 := of_decide_eq_false h62
              exact absurd rfl h62
    · replace h24 := of_decide_eq_false h24
      refine Plan.move (v := .bool _) rfl rfl rfl ?_
      refine Plan.no rfl rfl ?_
      refine Plan.no rfl rfl ?_
      refine Plan.no rfl rfl ?_
      refine Plan.pick (v := .bool _) rfl rfl rfl rfl ?_
      refine Plan.pick (v := .bool _) rfl rfl rfl rfl ?_
      refine Plan.move (v := .bool _) rfl rfl rfl ?_
      refine Plan.move (v := .slice _ _ _) rfl rfl rfl ?_
      refine Plan.len rfl rfl slapiCut rfl ?_
      refine Plan.cmp2 rfl rfl rfl rfl rfl (fun h34 => ?_) (fun h34 => ?_)
      · replace h34 := of_decide_eq_true h34
        omega
      · replace h34 := of_decide_eq_false h34
        refine Plan.pick (v := .bool _) rfl rfl rfl rfl ?_
        refine Plan.done ?_
        refine HW.cond_false rfl ?_
        refine HW.skip ?_
        refine HW.seq (HW.region [(0, .ef), (1, .st), (2, .ef), (3, .st)] rfl rfl ?_)
        refine Plan.buildOwn (xs := ([] : List Ct2)) (enc := enc) (sz := 2) rfl rfl rfl (bsCut0) rfl rfl (by simp) rfl fun b37 => ?_
        refine Plan.move (v := .slice _ _ _) rfl rfl rfl ?_
        refine Plan.appendRd (enc := enc) (sz := 2) (ys := p) (0) rfl rfl hDn slapiCut infapiCut rfl (by decide) enc2 enc1 rfl rfl rfl rfl rfl (fun w hm => hB.mem hm) (by simp; omega) (by simp; omega) fun o39 c39 => ?_
        refine Plan.assign (v := .slice _ _ _) rfl rfl rfl ?_
        refine Plan.done ?_
        refine HW.seq (HW.region [(0, .st), (1, .st), (2, .st), (3, .st), (4, .ef), (5, .st), (6, .st), (7, .st), (8, .st), (9, .st), (10, .st), (11, .st), (12, .st), (13, .st)] rfl rfl ?_)
        refine Plan.move (v := .int _ _) rfl rfl rfl ?_
        refine Plan.move (v := .int _ _) rfl rfl rfl ?_
        refine Plan.move (v := .slice _ _ _) rfl rfl rfl ?_
        refine Plan.move (v := .slice _ _ _) rfl rfl rfl ?_
        refine Plan.callF [] 0 rfl rfl rfl (.inl rfl) (by simp) (fun w hm => WorthB_ct x y A l _ c (at0 o39) p _ c39 w (hA.mem hm) rfl (by omega) (Res.own_rd enc2 (hm.res (ownC o39 c39 ([] ++ p)) (by simp))) (by simp) (Res.own_cap (hm.res (ownC o39 c39 ([] ++ p)) (by simp))).1 hw) ?_   -- tinplate/blank.Worth
        rintro v Ln ⟨o1, c1, rfl, rfl⟩
        refine Plan.move (v := .tuple _) rfl rfl rfl ?_
        refine Plan.extract (v := .int _ _) rfl rfl rfl rfl ?_
        refine Plan.extract (v := .slice _ _ _) rfl rfl rfl rfl ?_
        refine Plan.extract (v := .bool _) rfl rfl rfl rfl ?_
        refine Plan.splitB (fun h48 => ?_) (fun h48 => ?_)
        · skip
          obtain rfl := h48
          refine Plan.extract (v := .int _ _) rfl rfl rfl rfl ?_
          refine Plan.assign (v := .int _ _) rfl rfl rfl ?_
          refine Plan.assign (v := .slice _ _ _) rfl rfl rfl ?_
          refine Plan.assign (v := .bool _) rfl rfl rfl ?_
          refine Plan.assign (v := .int _ _) rfl rfl rfl ?_
          refine Plan.done ?_
          refine HW.seq (HW.region [(0, .st), (1, .st), (2, .st), (3, .st), (4, .ef), (5, .st), (6, .st), (7, .st), (8, .st), (9, .st), (10, .st), (11, .st), (12, .st), (13, .st)] rfl rfl ?_)
          refine Plan.move (v := .int _ _) rfl rfl rfl ?_
          refine Plan.move (v := .int _ _) rfl rfl rfl ?_
          refine Plan.move (v := .slice _ _ _) rfl rfl rfl ?_
          refine Plan.move (v := .slice _ _ _) rfl rfl rfl ?_
          refine Plan.callF [] 0 rfl rfl rfl (.inl rfl) (by simp) (fun w hm => WorthR_ct x y A l _ c B p _ pc w (hA.mem hm) rfl (by omega) (hB.mem hm) rfl hw) ?_   -- tinplate/tinplateref04.Worth
          rintro v Ln ⟨o2, c2, rfl, rfl⟩
          refine Plan.move (v := .tuple _) rfl rfl rfl ?_
          refine Plan.extract (v := .int _ _) rfl rfl rfl rfl ?_
          refine Plan.extract (v := .slice _ _ _) rfl rfl rfl rfl ?_
          refine Plan.extract (v := .bool _) rfl rfl rfl rfl ?_
          refine Plan.extract (v := .int _ _) rfl rfl rfl rfl ?_
          refine Plan.assign (v := .int _ _) rfl rfl rfl ?_
          refine Plan.assign (v := .slice _ _ _) rfl rfl rfl ?_
          refine Plan.assign (v := .bool _) rfl rfl rfl ?_
          refine Plan.assign (v := .int _ _) rfl rfl rfl ?_
          refine Plan.done ?_
          refine HW.seq (HW.region [(0, .st), (1, .st), (2, .st), (3, .st), (4, .st), (5, .st), (6, .ef), (7, .st), (8, .st), (9, .st), (10, .st), (11, .st), (12, .st), (13, .st), (14, .st), (15, .st), (16, .st), (17, .st), (18, .st), (19, .st), (20, .st), (21, .ef), (22, .st), (23, .st), (24, .ef), (25, .st), (26, .st)] rfl rfl ?_)
          refine Plan.move (v := .int _ _) rfl rfl rfl ?_
          refine Plan.move (v := .int _ _) rfl rfl rfl ?_
          refine Plan.cmp2 rfl rfl rfl rfl rfl (fun h62 => ?_) (fun h62 => ?_)
          · replace h62 := of_decide_eq_true h62
            refine Plan.move (v := .bool _) rfl rfl rfl ?_
            refine Plan.move (v := .slice _ _ _) rfl rfl rfl ?_
            refine Plan.move (v := .slice _ _ _) rfl rfl rfl ?_
            refine Plan.callF [] 0 rfl rfl rfl (.inl rfl) (by simp) (fun w hm => numbers_ct (at0 o1) (at0 o2) xs xs _ _ c1 c2 w (Res.own_rd encI1 (hm.res (ownI o1 c1 xs) (by simp))) (Res.own_rd encI1 (hm.res (ownI o2 c2 xs) (by simp))) rfl rfl (by omega) rfl) ?_   -- tinplate/tinplatelaw04.numbers
            rintro v Ln ⟨rfl, rfl⟩
            refine Plan.splitB (fun h66 => ?_) (fun h66 => ?_)
            · skip
              refine Plan.pick (v := .bool _) rfl rfl rfl rfl ?_
              refine Plan.move (v := .bool _) rfl rfl rfl ?_
              refine Plan.move (v := .bool _) rfl rfl rfl ?_
              refine Plan.move (v := .bool _) rfl rfl rfl ?_
              refine Plan.eqB rfl rfl undB rfl rfl ?_
              refine Plan.pick (v := .bool _) rfl rfl rfl rfl ?_
              refine Plan.move (v := .bool _) rfl rfl rfl ?_
              refine Plan.move (v := .int _ _) rfl rfl rfl ?_
              refine Plan.move (v := .int _ _) rfl rfl rfl ?_
              refine Plan.cmp2 rfl rfl rfl rfl rfl (fun h76 => ?_) (fun h76 => ?_)
              · replace h76 := of_decide_eq_true h76
                refine Plan.pick (v := .bool _) rfl rfl rfl rfl ?_
                refine Plan.move (v := .bool _) rfl rfl rfl ?_
                refine Plan.move (v := .slice _ _ _) rfl rfl rfl ?_
                refine Plan.move (v := .slice _ _ _) rfl rfl rfl ?_
                refine Plan.callF [] 0 rfl rfl rfl (.inl rfl) (by simp) (fun w hm => cuts_ct (at0 o39) B p p _ _ c39 pc w (Res.own_rd enc2 (hm.res (ownC o39 c39 ([] ++ p)) (by simp))) (hB.mem hm) (by simp) rfl (by omega) rfl) ?_   -- tinplate/tinplatelaw04.cuts
                rintro v Ln ⟨rfl, rfl⟩
                refine Plan.splitB (fun h81 => ?_) (fun h81 => ?_)
                · skip
                  refine Plan.pick (v := .bool _) rfl rfl rfl rfl ?_
                  refine Plan.move (v := .bool _) rfl rfl rfl ?_
                  refine Plan.callF [] 0 rfl rfl rfl (.inl rfl) (by simp) (fun w hm => alive_ct w) ?_   -- tinplate/tinplatelaw04.alive
                  rintro v Ln ⟨rfl, rfl⟩
                  refine Plan.splitB (fun h84 => ?_) (fun h84 => ?_)
                  · skip
                    refine Plan.pick (v := .bool _) rfl rfl rfl rfl ?_
                    refine Plan.assign (v := .bool _) rfl rfl rfl ?_
                    refine Plan.done ?_
                    exact HW.ret ⟨rfl, _, [], .tmp rfl .nil, List.nil_sublist _, rfl, rfl⟩
                  · skip
                    exact absurd h84 (by decide)
                · skip
                  exact absurd h81 (by decide)
              · replace h76 := of_decide_eq_false h76
                exact absurd rfl h76
            · skip
              exact absurd h66 (by decide)
          · replace h62 := of_decide_eq_false h62
            exact absurd rfl h62
        · skip
          obtain rfl := h48
          refine Plan.extract (v := .int _ _) rfl rfl rfl rfl ?_
          refine Plan.assign (v := .int _ _) rfl rfl rfl ?_
          refine Plan.assign (v := .slice _ _ _) rfl rfl rfl ?_
          refine Plan.assign (v := .bool _) rfl rfl rfl ?_
          refine Plan.assign (v := .int _ _) rfl rfl rfl ?_
          refine Plan.done ?_
          refine HW.seq (HW.region [(0, .st), (1, .st), (2, .st), (3, .st), (4, .ef), (5, .st), (6, .st), (7, .st), (8, .st), (9, .st), (10, .st), (11, .st), (12, .st), (13, .st)] rfl rfl ?_)
          refine Plan.move (v := .int _ _) rfl rfl rfl ?_
          refine Plan.move (v := .int _ _) rfl rfl rfl ?_
          refine Plan.move (v := .slice _ _ _) rfl rfl rfl ?_
          refine Plan.move (v := .slice _ _ _) rfl rfl rfl ?_
          refine Plan.callF [] 0 rfl rfl rfl (.inl rfl) (by simp) (fun w hm => WorthR_ct x y A l _ c B p _ pc w (hA.mem hm) rfl (by omega) (hB.mem hm) rfl hw) ?_   -- tinplate/tinplateref04.Worth
          rintro v Ln ⟨o2, c2, rfl, rfl⟩
          refine Plan.move (v := .tuple _) rfl rfl rfl ?_
          refine Plan.extract (v := .int _ _) rfl rfl rfl rfl ?_
          refine Plan.extract (v := .slice _ _ _) rfl rfl rfl rfl ?_
          refine Plan.extract (v := .bool _) rfl rfl rfl rfl ?_
          refine Plan.extract (v := .int _ _) rfl rfl rfl rfl ?_
          refine Plan.assign (v := .int _ _) rfl rfl rfl ?_
          refine Plan.assign (v := .slice _ _ _) rfl rfl rfl ?_
          refine Plan.assign (v := .bool _) rfl rfl rfl ?_
          refine Plan.assign (v := .int _ _) rfl rfl rfl ?_
          refine Plan.done ?_
          refine HW.seq (HW.region [(0, .st), (1, .st), (2, .st), (3, .st), (4, .st), (5, .st), (6, .ef), (7, .st), (8, .st), (9, .st), (10, .st), (11, .st), (12, .st), (13, .st), (14, .st), (15, .st), (16, .st), (17, .st), (18, .st), (19, .st), (20, .st), (21, .ef), (22, .st), (23, .st), (24, .ef), (25, .st), (26, .st)] rfl rfl ?_)
          refine Plan.move (v := .int _ _) rfl rfl rfl ?_
          refine Plan.move (v := .int _ _) rfl rfl rfl ?_
          refine Plan.cmp2 rfl rfl rfl rfl rfl (fun h62 => ?_) (fun h62 => ?_)
          · replace h62 := of_decide_eq_true h62
            refine Plan.move (v := .bool _) rfl rfl rfl ?_
            refine Plan.move (v := .slice _ _ _) rfl rfl rfl ?_
            refine Plan.move (v := .slice _ _ _) rfl rfl rfl ?_
            refine Plan.callF [] 0 rfl rfl rfl (.inl rfl) (by simp) (fun w hm => numbers_ct (at0 o1) (at0 o2) xs xs _ _ c1 c2 w (Res.own_rd encI1 (hm.res (ownI o1 c1 xs) (by simp))) (Res.own_rd encI1 (hm.res (ownI o2 c2 xs) (by simp))) rfl rfl (by omega) rfl) ?_   -- tinplate/tinplatelaw04.numbers
            rintro v Ln ⟨rfl, rfl⟩
            refine Plan.splitB (fun h66 => ?_) (fun h66 => ?_)
            · skip
              refine Plan.pick (v := .bool _) rfl rfl rfl rfl ?_
              refine Plan.move (v := .bool _) rfl rfl rfl ?_
              refine Plan.move (v := .bool _) rfl rfl rfl ?_
              refine Plan.move (v := .bool _) rfl rfl rfl ?_
              refine Plan.eqB rfl rfl undB rfl rfl ?_
              refine Plan.pick (v := .bool _) rfl rfl rfl rfl ?_
              refine Plan.move (v := .bool _) rfl rfl rfl ?_
              refine Plan.move (v := .int _ _) rfl rfl rfl ?_
              refine Plan.move (v := .int _ _) rfl rfl rfl ?_
              refine Plan.cmp2 rfl rfl rfl rfl rfl (fun h76 => ?_) (fun h76 => ?_)
              · replace h76 := of_decide_eq_true h76
                refine Plan.pick (v := .bool _) rfl rfl rfl rfl ?_
                refine Plan.move (v := .bool _) rfl rfl rfl ?_
                refine Plan.move (v := .slice _ _ _) rfl rfl rfl ?_
                refine Plan.move (v := .slice _ _ _) rfl rfl rfl ?_
                refine Plan.callF [] 0 rfl rfl rfl (.inl rfl) (by simp) (fun w hm => cuts_ct (at0 o39) B p p _ _ c39 pc w (Res.own_rd enc2 (hm.res (ownC o39 c39 ([] ++ p)) (by simp))) (hB.mem hm) (by simp) rfl (by omega) rfl) ?_   -- tinplate/tinplatelaw04.cuts
                rintro v Ln ⟨rfl, rfl⟩
                refine Plan.splitB (fun h81 => ?_) (fun h81 => ?_)
                · skip
                  refine Plan.pick (v := .bool _) rfl rfl rfl rfl ?_
                  refine Plan.move (v := .bool _) rfl rfl rfl ?_
                  refine Plan.callF [] 0 rfl rfl rfl (.inl rfl) (by simp) (fun w hm => alive_ct w) ?_   -- tinplate/tinplatelaw04.alive
                  rintro v Ln ⟨rfl, rfl⟩
                  refine Plan.splitB (fun h84 => ?_) (fun h84 => ?_)
                  · skip
                    refine Plan.pick (v := .bool _) rfl rfl rfl rfl ?_
                    refine Plan.assign (v := .bool _) rfl rfl rfl ?_
                    refine Plan.done ?_
                    exact HW.ret ⟨rfl, _, [], .tmp rfl .nil, List.nil_sublist _, rfl, rfl⟩
                  · skip
                    exact absurd h84 (by decide)
                · skip
                  exact absurd h81 (by decide)
              · replace h76 := of_decide_eq_false h76
                exact absurd rfl h76
            · skip
              exact absurd h66 (by decide)
          · replace h62 := of_decide_eq_false h62
            exact absurd rfl h62

theorem blankReads_ct (A B : Option Addr) (x y : Int) (l : List It) (p : List Ct2) (n c pn pc : Nat) (w : World) (hA : Rd encT 3 w A l) (hB : Rd enc 2 w B p) (hn : n = l.length) (hpn : pn = p.length) (hpc : pn ≤ pc) :
    Ct P 7 #[int x, int y, .slice A n c, .slice B pn pc] w [] (fun r L => r = .bool true ∧ L = []) := by
  by_cases hf : 30 < l.length ∨ (1000 < p.length ∧ p.length ≤ 20001) ∨ 21000 < p.length
  · exact Reads_far A B x y l p n c pn pc w hn hpn hf
  · exact Reads_ok A B x y l p n c pn pc w hA hB hn hpn hpc (by omega) (by omega) (by omega)

end Go.Proofs.Ytjmklbkcpjmcaaa.V
