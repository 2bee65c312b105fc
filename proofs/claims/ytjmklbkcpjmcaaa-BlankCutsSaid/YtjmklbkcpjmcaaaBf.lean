/-
  Package tinplateref04: sheet, Order; numbers, cuts.
-/
import Derived.Test.YtjmklbkcpjmcaaaBd
namespace Go.Proofs.Ytjmklbkcpjmcaaa.V
open Go Go.RowKit Go.Proofs.Ytjmklbkcpjmcaaa.H Go.Proofs.Ytjmklbkcpjmcaaa.LL
set_option linter.unusedVariables false
set_option linter.unusedSimpArgs false

theorem sheetR_ct (n : Int) (w : World) : Ct P 46 #[int n] w [] (fun r L => r = .bool (decide (1 ≤ n ∧ n ≤ 100)) ∧ L = []) := by
  have ht : ∀ {p : Bool}, p = decide (1 ≤ n ∧ n ≤ 100) → (Value.bool p = .bool (decide (1 ≤ n ∧ n ≤ 100))) := fun h => by rw [h]
  refine Ct.of_body (rs := [.tmp 2]) (N := 9) (L := []) Try.func46 rfl rfl rfl (by kernel_rfl) rfl (Mem.refl w) ?_
  refine HW.seq (HW.region [(0, .st)] rfl rfl ?_)
  refine Plan.assign (v := .bool _) rfl rfl rfl ?_
  refine Plan.done ?_
  refine HW.seq (HW.region [(0, .st), (1, .st), (2, .st), (3, .st), (4, .st), (5, .st), (6, .st)] rfl rfl ?_)
  refine Plan.move (v := .int _ _) rfl rfl rfl ?_
  refine Plan.cmp2 rfl rfl rfl rfl rfl (fun h4 => ?_) (fun h4 => ?_)
  · replace h4 := of_decide_eq_true h4
    refine Plan.move (v := .bool _) rfl rfl rfl ?_
    refine Plan.move (v := .int _ _) rfl rfl rfl ?_
    refine Plan.cmp2 rfl rfl rfl rfl rfl (fun h7 => ?_) (fun h7 => ?_)
    · replace h7 := of_decide_eq_true h7
      refine Plan.pick (v := .bool _) rfl rfl rfl rfl ?_
      refine Plan.assign (v := .bool _) rfl rfl rfl ?_
      refine Plan.done ?_
      exact HW.ret ⟨rfl, _, [], .tmp rfl .nil, List.nil_sublist _, ht (decide_eq_true (by omega)).symm, rfl⟩
    · replace h7 := of_decide_eq_false h7
      refine Plan.pick (v := .bool _) rfl rfl rfl rfl ?_
      refine Plan.assign (v := .bool _) rfl rfl rfl ?_
      refine Plan.done ?_
      exact HW.ret ⟨rfl, _, [], .tmp rfl .nil, List.nil_sublist _, ht (decide_eq_false (by omega)).symm, rfl⟩
  · replace h4 := of_decide_eq_false h4
    refine Plan.move (v := .bool _) rfl rfl rfl ?_
    refine Plan.no rfl rfl ?_
    refine Plan.no rfl rfl ?_
    refine Plan.pick (v := .bool _) rfl rfl rfl rfl ?_
    refine Plan.assign (v := .bool _) rfl rfl rfl ?_
    refine Plan.done ?_
    exact HW.ret ⟨rfl, _, [], .tmp rfl .nil, List.nil_sublist _, ht (decide_eq_false (by omega)).symm, rfl⟩

theorem any_bad {l : List It} {k : Nat} (hk : k < l.length) (h : badI l[k] = true) : l.any badI = true := List.any_eq_true.2 ⟨l[k], List.getElem_mem hk, h⟩

theorem Order_ct (x y : Int) (A : Option Addr) (l : List It) (n c : Nat) (w : World) (hA : Rd encT 3 w A l) (hn : n = l.length) (hlen : l.length ≤ 1000000) :
    Ct P 18 #[int x, int y, .slice A n c] w [] (fun r L => r = int (sheetF x y l) ∧ L = []) := by
  subst hn
  have ht : ∀ {p : Int}, p = sheetF x y l → (int p = int (sheetF x y l)) := fun h => by rw [h]
  refine Ct.of_body (rs := [.tmp 6]) (N := 57) (L := []) Try.func18 rfl rfl rfl (by kernel_rfl) rfl (Mem.refl w) ?_
  refine HW.seq (HW.region [(0, .st)] rfl rfl ?_)
  refine Plan.assign (v := .int _ _) rfl rfl rfl ?_
  refine Plan.done ?_
  refine HW.seq ?_
  refine HW.seq (HW.region [(0, .st), (1, .ef), (2, .st), (3, .st), (4, .st), (5, .ef), (6, .st), (7, .st)] rfl rfl ?_)
  refine Plan.move (v := .int _ _) rfl rfl rfl ?_
  refine Plan.callF [] 0 rfl rfl rfl (.inl rfl) (by simp) (fun w hm => sheetR_ct x w) ?_   -- tinplate/tinplateref04.sheet
  rintro v Ln ⟨rfl, rfl⟩
  refine Plan.splitB (fun h9 => ?_) (fun h9 => ?_)
  · skip
    replace h9 := of_decide_eq_true h9
    refine Plan.not rfl rfl rfl ?_
    refine Plan.move (v := .bool _) rfl rfl rfl ?_
    refine Plan.move (v := .int _ _) rfl rfl rfl ?_
    refine Plan.callF [] 0 rfl rfl rfl (.inl rfl) (by simp) (fun w hm => sheetR_ct y w) ?_   -- tinplate/tinplateref04.sheet
    rintro v Ln ⟨rfl, rfl⟩
    refine Plan.splitB (fun h13 => ?_) (fun h13 => ?_)
    · skip
      replace h13 := of_decide_eq_true h13
      refine Plan.not rfl rfl rfl ?_
      refine Plan.pick (v := .bool _) rfl rfl rfl rfl ?_
      refine Plan.done ?_
      refine HW.cond_false rfl ?_
      refine HW.skip ?_
      refine HW.seq ?_
      refine HW.seq (HW.region [(0, .st), (1, .st), (2, .st)] rfl rfl ?_)
      refine Plan.move (v := .slice _ _ _) rfl rfl rfl ?_
      refine Plan.len rfl rfl slapiItem rfl ?_
      refine Plan.cmp2 rfl rfl rfl rfl rfl (fun h18 => ?_) (fun h18 => ?_)
      · replace h18 := of_decide_eq_true h18
        refine Plan.done ?_
        refine HW.cond_true rfl ?_
        refine HW.seq (HW.region [(0, .st)] rfl rfl ?_)
        refine Plan.assign (v := .int _ _) rfl rfl rfl ?_
        refine Plan.done ?_
        exact HW.ret ⟨rfl, _, [], .tmp rfl .nil, List.nil_sublist _, ht (by rw [sheetF, if_neg (by omega), if_pos (by omega)]), rfl⟩
      · replace h18 := of_decide_eq_false h18
        refine Plan.done ?_
        refine HW.cond_false rfl ?_
        refine HW.skip ?_
        refine HW.seq ?_
        refine HW.seq (HW.region [(0, .st)] rfl rfl ?_)
        refine Plan.assign (v := .int _ _) rfl rfl rfl ?_
        refine Plan.done ?_
        refine HW.block ?_
        refine HW.loopC (G := Nat) [6, 7, 19, 20, 21, 22, 23, 24, 25, 26, 27, 28, 29, 30, 31, 32, 33, 34, 35, 36, 37, 38, 39, 40, 41, 42, 43, 44, 45, 46, 47, 48, 49, 50, 51, 52, 53, 54, 55, 56] (fun g => [(7, int g)]) (fun g => g ≤ l.length ∧ ∀ j (h : j < l.length), j < g → badI l[j] = false) (fun g => l.length - g) (0) ⟨rfl, trivial⟩ (⟨Nat.zero_le _, fun j h hj => absurd hj (Nat.not_lt_zero _)⟩) (fun g F hok => ?_)
        obtain ⟨hk, hno⟩ := hok
        refine HW.seq ?_
        refine HW.seq (HW.region [(0, .st), (1, .st), (2, .st), (3, .st)] rfl rfl ?_)
        refine Plan.move (v := .int _ _) rfl rfl rfl ?_
        refine Plan.move (v := .slice _ _ _) rfl rfl rfl ?_
        refine Plan.len rfl rfl slapiItem rfl ?_
        refine Plan.cmp2 rfl rfl rfl rfl rfl (fun h22 => ?_) (fun h22 => ?_)
        · replace h22 := of_decide_eq_true h22
          have hlt : g < l.length := by omega
          obtain ⟨ad, rfl, hl1⟩ := hA g hlt
          refine Plan.done ?_
          refine HW.cond_true rfl ?_
          refine HW.skip ?_
          refine HW.seq ?_
          refine HW.block ?_
          refine HW.seq (HW.region [(0, .st), (1, .st), (2, .st), (3, .st), (4, .st), (5, .ef), (6, .st), (7, .st), (8, .st), (9, .st), (10, .st), (11, .st), (12, .st), (13, .ef), (14, .st), (15, .st), (16, .st), (17, .st), (18, .st), (19, .st), (20, .st), (21, .st), (22, .st), (23, .st), (24, .st), (25, .st), (26, .st), (27, .st), (28, .st), (29, .st), (30, .st), (31, .st)] rfl rfl ?_)
          refine Plan.move (v := .slice _ _ _) rfl rfl rfl ?_
          refine Plan.move (v := .int _ _) rfl rfl rfl ?_
          refine Plan.indexN (g) rfl rfl slapiItem sizapiItem rfl rfl rfl rfl (hlt) ?_
          refine Plan.fieldAddr rfl rfl fldItem0 rfl ?_
          refine Plan.load (v := .int _ _) rfl rfl aggI rfl (Sees.nth (Sees.old hl1 (by simp)) 0 rfl) ?_
          refine Plan.callF [] 0 rfl rfl rfl (.inl rfl) (by simp) (fun w hm => sheetR_ct _ w) ?_   -- tinplate/tinplateref04.sheet
          rintro v Ln ⟨rfl, rfl⟩
          refine Plan.splitB (fun h30 => ?_) (fun h30 => ?_)
          · skip
            replace h30 := of_decide_eq_true h30
            refine Plan.not rfl rfl rfl ?_
            refine Plan.move (v := .bool _) rfl rfl rfl ?_
            refine Plan.move (v := .slice _ _ _) rfl rfl rfl ?_
            refine Plan.move (v := .int _ _) rfl rfl rfl ?_
            refine Plan.indexN (g) rfl rfl slapiItem sizapiItem rfl rfl rfl rfl (hlt) ?_
            refine Plan.fieldAddr rfl rfl fldItem1 rfl ?_
            refine Plan.load (v := .int _ _) rfl rfl aggI rfl (Sees.nth (Sees.old hl1 (by simp)) 1 rfl) ?_
            refine Plan.callF [] 0 rfl rfl rfl (.inl rfl) (by simp) (fun w hm => sheetR_ct _ w) ?_   -- tinplate/tinplateref04.sheet
            rintro v Ln ⟨rfl, rfl⟩
            refine Plan.splitB (fun h38 => ?_) (fun h38 => ?_)
            · skip
              replace h38 := of_decide_eq_true h38
              refine Plan.not rfl rfl rfl ?_
              refine Plan.pick (v := .bool _) rfl rfl rfl rfl ?_
              refine Plan.move (v := .bool _) rfl rfl rfl ?_
              refine Plan.move (v := .slice _ _ _) rfl rfl rfl ?_
              refine Plan.move (v := .int _ _) rfl rfl rfl ?_
              refine Plan.indexN (g) rfl rfl slapiItem sizapiItem rfl rfl rfl rfl (hlt) ?_
              refine Plan.fieldAddr rfl rfl fldItem2 rfl ?_
              refine Plan.load (v := .int _ _) rfl rfl aggI rfl (Sees.nth (Sees.old hl1 (by simp)) 2 rfl) ?_
              refine Plan.cmp2 rfl rfl rfl rfl rfl (fun h47 => ?_) (fun h47 => ?_)
              · replace h47 := of_decide_eq_true h47
                have hbad := any_bad hlt (decide_eq_true (show l[g].1 < 1 ∨ 100 < l[g].1 ∨ l[g].2.1 < 1 ∨ 100 < l[g].2.1 ∨ l[g].2.2 < 1 ∨ 1048576 < l[g].2.2 by omega))
                refine Plan.pick (v := .bool _) rfl rfl rfl rfl ?_
                refine Plan.move (v := .bool _) rfl rfl rfl ?_
                refine Plan.no rfl rfl ?_
                refine Plan.no rfl rfl ?_
                refine Plan.no rfl rfl ?_
                refine Plan.no rfl rfl ?_
                refine Plan.no rfl rfl ?_
                refine Plan.no rfl rfl ?_
                refine Plan.pick (v := .bool _) rfl rfl rfl rfl ?_
                refine Plan.done ?_
                refine HW.cond_true rfl ?_
                refine HW.seq (HW.region [(0, .st)] rfl rfl ?_)
                refine Plan.assign (v := .int _ _) rfl rfl rfl ?_
                refine Plan.done ?_
                exact HW.ret ⟨rfl, _, [], .tmp rfl .nil, List.nil_sublist _, ht (by rw [sheetF, if_neg (by omega), if_neg (by omega), if_pos hbad]), rfl⟩
              · replace h47 := of_decide_eq_false h47
                refine Plan.pick (v := .bool _) rfl rfl rfl rfl ?_
                refine Plan.move (v := .bool _) rfl rfl rfl ?_
                refine Plan.move (v := .slice _ _ _) rfl rfl rfl ?_
                refine Plan.move (v := .int _ _) rfl rfl rfl ?_
                refine Plan.indexN (g) rfl rfl slapiItem sizapiItem rfl rfl rfl rfl (hlt) ?_
                refine Plan.fieldAddr rfl rfl fldItem2 rfl ?_
                refine Plan.load (v := .int _ _) rfl rfl aggI rfl (Sees.nth (Sees.old hl1 (by simp)) 2 rfl) ?_
                refine Plan.cmp2 rfl rfl rfl rfl rfl (fun h55 => ?_) (fun h55 => ?_)
                · replace h55 := of_decide_eq_true h55
                  have hbad := any_bad hlt (decide_eq_true (show l[g].1 < 1 ∨ 100 < l[g].1 ∨ l[g].2.1 < 1 ∨ 100 < l[g].2.1 ∨ l[g].2.2 < 1 ∨ 1048576 < l[g].2.2 by omega))
                  refine Plan.pick (v := .bool _) rfl rfl rfl rfl ?_
                  refine Plan.done ?_
                  refine HW.cond_true rfl ?_
                  refine HW.seq (HW.region [(0, .st)] rfl rfl ?_)
                  refine Plan.assign (v := .int _ _) rfl rfl rfl ?_
                  refine Plan.done ?_
                  exact HW.ret ⟨rfl, _, [], .tmp rfl .nil, List.nil_sublist _, ht (by rw [sheetF, if_neg (by omega), if_neg (by omega), if_pos hbad]), rfl⟩
                · replace h55 := of_decide_eq_false h55
                  have hgood : badI l[g] = false := decide_eq_false (show ¬ (l[g].1 < 1 ∨ 100 < l[g].1 ∨ l[g].2.1 < 1 ∨ 100 < l[g].2.1 ∨ l[g].2.2 < 1 ∨ 1048576 < l[g].2.2) by omega)
                  refine Plan.pick (v := .bool _) rfl rfl rfl rfl ?_
                  refine Plan.done ?_
                  refine HW.cond_false rfl ?_
                  refine HW.skip ?_
                  refine HW.region [(0, .st), (1, .st), (2, .st)] rfl rfl ?_
                  refine Plan.move (v := .int _ _) rfl rfl rfl ?_
                  refine Plan.arithI rfl rfl rfl rfl rfl (by omega) ?_
                  refine Plan.assign (v := .int _ _) rfl rfl rfl ?_
                  refine Plan.done ?_
                  exact ⟨g + 1, by simp only; omega, ⟨hlt, fun j hj hjk => by rcases Nat.lt_succ_iff_lt_or_eq.1 hjk with h | rfl <;> (first | exact hno j hj h | exact hgood)⟩, rfl, Ent.sub (.refl _), (by repeat (first | exact Agree.havoc _ _ _ | refine Agree.updN ?_ | refine Agree.upd rfl ?_ | refine Agree.updL rfl ?_ | refine Agree.havoc2 rfl ?_)), ⟨rfl, trivial⟩⟩
            · skip
              replace h38 := of_decide_eq_false h38
              have hbad := any_bad hlt (decide_eq_true (show l[g].1 < 1 ∨ 100 < l[g].1 ∨ l[g].2.1 < 1 ∨ 100 < l[g].2.1 ∨ l[g].2.2 < 1 ∨ 1048576 < l[g].2.2 by omega))
              refine Plan.not rfl rfl rfl ?_
              refine Plan.pick (v := .bool _) rfl rfl rfl rfl ?_
              refine Plan.move (v := .bool _) rfl rfl rfl ?_
              refine Plan.no rfl rfl ?_
              refine Plan.no rfl rfl ?_
              refine Plan.no rfl rfl ?_
              refine Plan.no rfl rfl ?_
              refine Plan.no rfl rfl ?_
              refine Plan.no rfl rfl ?_
              refine Plan.pick (v := .bool _) rfl rfl rfl rfl ?_
              refine Plan.move (v := .bool _) rfl rfl rfl ?_
              refine Plan.no rfl rfl ?_
              refine Plan.no rfl rfl ?_
              refine Plan.no rfl rfl ?_
              refine Plan.no rfl rfl ?_
              refine Plan.no rfl rfl ?_
              refine Plan.no rfl rfl ?_
              refine Plan.pick (v := .bool _) rfl rfl rfl rfl ?_
              refine Plan.done ?_
              refine HW.cond_true rfl ?_
              refine HW.seq (HW.region [(0, .st)] rfl rfl ?_)
              refine Plan.assign (v := .int _ _) rfl rfl rfl ?_
              refine Plan.done ?_
              exact HW.ret ⟨rfl, _, [], .tmp rfl .nil, List.nil_sublist _, ht (by rw [sheetF, if_neg (by omega), if_neg (by omega), if_pos hbad]), rfl⟩
          · skip
            replace h30 := of_decide_eq_false h30
            have hbad := any_bad hlt (decide_eq_true (show l[g].1 < 1 ∨ 100 < l[g].1 ∨ l[g].2.1 < 1 ∨ 100 < l[g].2.1 ∨ l[g].2.2 < 1 ∨ 1048576 < l[g].2.2 by omega))
            refine Plan.not rfl rfl rfl ?_
            refine Plan.move (v := .bool _) rfl rfl rfl ?_
            refine Plan.no rfl rfl ?_
            refine Plan.no rfl rfl ?_
            refine Plan.no rfl rfl ?_
            refine Plan.no rfl rfl ?_
            refine Plan.no rfl rfl ?_
            refine Plan.noE rfl rfl ?_
            refine Plan.no rfl rfl ?_
            refine Plan.pick (v := .bool _) rfl rfl rfl rfl ?_
            refine Plan.move (v := .bool _) rfl rfl rfl ?_
            refine Plan.no rfl rfl ?_
            refine Plan.no rfl rfl ?_
            refine Plan.no rfl rfl ?_
            refine Plan.no rfl rfl ?_
            refine Plan.no rfl rfl ?_
            refine Plan.no rfl rfl ?_
            refine Plan.pick (v := .bool _) rfl rfl rfl rfl ?_
            refine Plan.move (v := .bool _) rfl rfl rfl ?_
            refine Plan.no rfl rfl ?_
            refine Plan.no rfl rfl ?_
            refine Plan.no rfl rfl ?_
            refine Plan.no rfl rfl ?_
            refine Plan.no rfl rfl ?_
            refine Plan.no rfl rfl ?_
            refine Plan.pick (v := .bool _) rfl rfl rfl rfl ?_
            refine Plan.done ?_
            refine HW.cond_true rfl ?_
            refine HW.seq (HW.region [(0, .st)] rfl rfl ?_)
            refine Plan.assign (v := .int _ _) rfl rfl rfl ?_
            refine Plan.done ?_
            exact HW.ret ⟨rfl, _, [], .tmp rfl .nil, List.nil_sublist _, ht (by rw [sheetF, if_neg (by omega), if_neg (by omega), if_pos hbad]), rfl⟩
        · replace h22 := of_decide_eq_false h22
          have hall : l.any badI = false := by
            rw [List.any_eq_false]
            intro q hq
            obtain ⟨j, hj, rfl⟩ := List.getElem_of_mem hq
            rw [hno j hj (by omega)]
            decide
          refine Plan.done ?_
          refine HW.cond_false rfl ?_
          refine HW.exit ?_
          refine HW.seq (HW.region [(0, .st)] rfl rfl ?_)
          refine Plan.assign (v := .int _ _) rfl rfl rfl ?_
          refine Plan.done ?_
          exact HW.ret ⟨rfl, _, [], .tmp rfl .nil, List.nil_sublist _, ht (by rw [sheetF, if_neg (by omega), if_neg (by omega), if_neg (by rw [hall]; decide)]), rfl⟩
    · skip
      replace h13 := of_decide_eq_false h13
      refine Plan.not rfl rfl rfl ?_
      refine Plan.pick (v := .bool _) rfl rfl rfl rfl ?_
      refine Plan.done ?_
      refine HW.cond_true rfl ?_
      refine HW.seq (HW.region [(0, .st)] rfl rfl ?_)
      refine Plan.assign (v := .int _ _) rfl rfl rfl ?_
      refine Plan.done ?_
      exact HW.ret ⟨rfl, _, [], .tmp rfl .nil, List.nil_sublist _, ht (by rw [sheetF, if_pos (by omega)]), rfl⟩
  · skip
    replace h9 := of_decide_eq_false h9
    refine Plan.not rfl rfl rfl ?_
    refine Plan.move (v := .bool _) rfl rfl rfl ?_
    refine Plan.no rfl rfl ?_
    refine Plan.noE rfl rfl ?_
    refine Plan.no rfl rfl ?_
    refine Plan.pick (v := .bool _) rfl rfl rfl rfl ?_
    refine Plan.done ?_
    refine HW.cond_true rfl ?_
    refine HW.seq (HW.region [(0, .st)] rfl rfl ?_)
    refine Plan.assign (v := .int _ _) rfl rfl rfl ?_
    refine Plan.done ?_
    exact HW.ret ⟨rfl, _, [], .tmp rfl .nil, List.nil_sublist _, ht (by rw [sheetF, if_pos (by omega)]), rfl⟩

theorem numbers_ct (A B : Option Addr) (p q : List Int) (n m c d : Nat) (w : World) (hA : Rd encI 1 w A p) (hB : Rd encI 1 w B q) (hn : n = p.length) (hm : m = q.length) (hlen : p.length ≤ 1000000) (he : p = q) :
    Ct P 25 #[.slice A n c, .slice B m d] w [] (fun r L => r = .bool true ∧ L = []) := by
  subst he hn hm
  refine Ct.of_body (rs := [.tmp 4]) (N := 26) (L := []) Try.func25 rfl rfl rfl (by kernel_rfl) rfl (Mem.refl w) ?_
  refine HW.seq (HW.region [(0, .st)] rfl rfl ?_)
  refine Plan.assign (v := .bool _) rfl rfl rfl ?_
  refine Plan.done ?_
  refine HW.seq ?_
  refine HW.seq (HW.region [(0, .st), (1, .st), (2, .st), (3, .st), (4, .st)] rfl rfl ?_)
  refine Plan.move (v := .slice _ _ _) rfl rfl rfl ?_
  refine Plan.len rfl rfl slI rfl ?_
  refine Plan.move (v := .slice _ _ _) rfl rfl rfl ?_
  refine Plan.len rfl rfl slI rfl ?_
  refine Plan.cmp2 rfl rfl rfl rfl rfl (fun h10 => ?_) (fun h10 => ?_)
  · replace h10 := ne_of_t h10
    exact absurd rfl h10
  · replace h10 := eq_of_f h10
    refine Plan.done ?_
    refine HW.cond_false rfl ?_
    refine HW.skip ?_
    refine HW.seq ?_
    refine HW.seq (HW.region [(0, .st)] rfl rfl ?_)
    refine Plan.assign (v := .int _ _) rfl rfl rfl ?_
    refine Plan.done ?_
    refine HW.block ?_
    refine HW.loopC (G := Nat) [4, 5, 11, 12, 13, 14, 15, 16, 17, 18, 19, 20, 21, 22, 23, 24, 25] (fun g => [(5, int g)]) (fun g => g ≤ p.length) (fun g => p.length - g) (0) ⟨rfl, trivial⟩ (Nat.zero_le _) (fun g F hok => ?_)
    refine HW.seq ?_
    refine HW.seq (HW.region [(0, .st), (1, .st), (2, .st), (3, .st)] rfl rfl ?_)
    refine Plan.move (v := .int _ _) rfl rfl rfl ?_
    refine Plan.move (v := .slice _ _ _) rfl rfl rfl ?_
    refine Plan.len rfl rfl slI rfl ?_
    refine Plan.cmp2 rfl rfl rfl rfl rfl (fun h14 => ?_) (fun h14 => ?_)
    · replace h14 := of_decide_eq_true h14
      have hlt : g < p.length := by omega
      obtain ⟨ad, rfl, hl1⟩ := hA g hlt
      obtain ⟨bd, rfl, hl2⟩ := hB g hlt
      refine Plan.done ?_
      refine HW.cond_true rfl ?_
      refine HW.skip ?_
      refine HW.seq ?_
      refine HW.block ?_
      refine HW.seq (HW.region_any [] [(0, .st), (1, .st), (2, .st), (3, .st), (4, .st), (5, .st), (6, .st), (7, .st), (8, .st)] mix (by kernel_rfl) (fun _ _ _ _ _ h => h) (zeros rfl) ?_)
      refine Plan.move (v := .slice _ _ _) rfl rfl rfl ?_
      refine Plan.move (v := .int _ _) rfl rfl rfl ?_
      refine Plan.indexN (g) rfl rfl slI sizI rfl rfl rfl rfl (hlt) ?_
      refine Plan.load (v := .int _ _) rfl rfl aggI rfl (Sees.old hl1 (by simp)) ?_
      refine Plan.move (v := .slice _ _ _) rfl rfl rfl ?_
      refine Plan.move (v := .int _ _) rfl rfl rfl ?_
      refine Plan.indexN (g) rfl rfl slI sizI rfl rfl rfl rfl (hlt) ?_
      refine Plan.load (v := .int _ _) rfl rfl aggI rfl (Sees.old hl2 (by simp)) ?_
      refine Plan.cmp2 rfl rfl rfl rfl rfl (fun h25 => ?_) (fun h25 => ?_)
      · replace h25 := ne_of_t h25
        exact absurd rfl h25
      · replace h25 := eq_of_f h25
        refine Plan.done ?_
        refine HW.cond_false rfl ?_
        refine HW.skip ?_
        refine HW.region [(0, .st), (1, .st), (2, .st)] rfl rfl ?_
        refine Plan.move (v := .int _ _) rfl rfl rfl ?_
        refine Plan.arithI rfl rfl rfl rfl rfl (by omega) ?_
        refine Plan.assign (v := .int _ _) rfl rfl rfl ?_
        refine Plan.done ?_
        exact ⟨g + 1, by simp only; omega, hlt, rfl, Ent.sub (.refl _), (by repeat (first | exact Agree.havoc _ _ _ | refine Agree.updN ?_ | refine Agree.upd rfl ?_ | refine Agree.updL rfl ?_ | refine Agree.havoc2 rfl ?_)), ⟨rfl, trivial⟩⟩
    · replace h14 := of_decide_eq_false h14
      refine Plan.done ?_
      refine HW.cond_false rfl ?_
      refine HW.exit ?_
      refine HW.seq (HW.region [(0, .st)] rfl rfl ?_)
      refine Plan.assign (v := .bool _) rfl rfl rfl ?_
      refine Plan.done ?_
      exact HW.ret ⟨rfl, _, [], .tmp rfl .nil, List.nil_sublist _, rfl, rfl⟩

theorem cuts_ct (A B : Option Addr) (p q : List Ct2) (n m c d : Nat) (w : World) (hA : Rd enc 2 w A p) (hB : Rd enc 2 w B q) (hn : n = p.length) (hm : m = q.length) (hlen : p.length ≤ 1000000) (he : p = q) :
    Ct P 21 #[.slice A n c, .slice B m d] w [] (fun r L => r = .bool true ∧ L = []) := by
  subst he hn hm
  refine Ct.of_body (rs := [.tmp 4]) (N := 26) (L := []) Try.func21 rfl rfl rfl (by kernel_rfl) rfl (Mem.refl w) ?_
  refine HW.seq (HW.region [(0, .st)] rfl rfl ?_)
  refine Plan.assign (v := .bool _) rfl rfl rfl ?_
  refine Plan.done ?_
  refine HW.seq ?_
  refine HW.seq (HW.region [(0, .st), (1, .st), (2, .st), (3, .st), (4, .st)] rfl rfl ?_)
  refine Plan.move (v := .slice _ _ _) rfl rfl rfl ?_
  refine Plan.len rfl rfl slapiCut rfl ?_
  refine Plan.move (v := .slice _ _ _) rfl rfl rfl ?_
  refine Plan.len rfl rfl slapiCut rfl ?_
  refine Plan.cmp2 rfl rfl rfl rfl rfl (fun h10 => ?_) (fun h10 => ?_)
  · replace h10 := ne_of_t h10
    exact absurd rfl h10
  · replace h10 := eq_of_f h10
    refine Plan.done ?_
    refine HW.cond_false rfl ?_
    refine HW.skip ?_
    refine HW.seq ?_
    refine HW.seq (HW.region [(0, .st)] rfl rfl ?_)
    refine Plan.assign (v := .int _ _) rfl rfl rfl ?_
    refine Plan.done ?_
    refine HW.block ?_
    refine HW.loopC (G := Nat) [4, 5, 11, 12, 13, 14, 15, 16, 17, 18, 19, 20, 21, 22, 23, 24, 25] (fun g => [(5, int g)]) (fun g => g ≤ p.length) (fun g => p.length - g) (0) ⟨rfl, trivial⟩ (Nat.zero_le _) (fun g F hok => ?_)
    refine HW.seq ?_
    refine HW.seq (HW.region [(0, .st), (1, .st), (2, .st), (3, .st)] rfl rfl ?_)
    refine Plan.move (v := .int _ _) rfl rfl rfl ?_
    refine Plan.move (v := .slice _ _ _) rfl rfl rfl ?_
    refine Plan.len rfl rfl slapiCut rfl ?_
    refine Plan.cmp2 rfl rfl rfl rfl rfl (fun h14 => ?_) (fun h14 => ?_)
    · replace h14 := of_decide_eq_true h14
      have hlt : g < p.length := by omega
      obtain ⟨ad, rfl, hl1⟩ := hA g hlt
      obtain ⟨bd, rfl, hl2⟩ := hB g hlt
      refine Plan.done ?_
      refine HW.cond_true rfl ?_
      refine HW.skip ?_
      refine HW.seq ?_
      refine HW.block ?_
      refine HW.seq (HW.region_any [] [(0, .st), (1, .st), (2, .st), (3, .st), (4, .st), (5, .st), (6, .st), (7, .st), (8, .st)] mix (by kernel_rfl) (fun _ _ _ _ _ h => h) (zeros rfl) ?_)
      refine Plan.move (v := .slice _ _ _) rfl rfl rfl ?_
      refine Plan.move (v := .int _ _) rfl rfl rfl ?_
      refine Plan.indexN (g) rfl rfl slapiCut sizapiCut rfl rfl rfl rfl (hlt) ?_
      refine Plan.loadAgg rfl rfl aggCut sizCut rfl (Sees.old hl1 (by simp)) rfl ?_
      refine Plan.move (v := .slice _ _ _) rfl rfl rfl ?_
      refine Plan.move (v := .int _ _) rfl rfl rfl ?_
      refine Plan.indexN (g) rfl rfl slapiCut sizapiCut rfl rfl rfl rfl (hlt) ?_
      refine Plan.loadAgg rfl rfl aggCut sizCut rfl (Sees.old hl2 (by simp)) rfl ?_
      refine Plan.neT eqtCut p[g] p[g] rfl rfl rfl rfl rfl (fun h25 => ?_) (fun h25 => ?_)
      · skip
        exact absurd rfl h25
      · skip
        refine Plan.done ?_
        refine HW.cond_false rfl ?_
        refine HW.skip ?_
        refine HW.region [(0, .st), (1, .st), (2, .st)] rfl rfl ?_
        refine Plan.move (v := .int _ _) rfl rfl rfl ?_
        refine Plan.arithI rfl rfl rfl rfl rfl (by omega) ?_
        refine Plan.assign (v := .int _ _) rfl rfl rfl ?_
        refine Plan.done ?_
        exact ⟨g + 1, by simp only; omega, hlt, rfl, Ent.sub (.refl _), (by repeat (first | exact Agree.havoc _ _ _ | refine Agree.updN ?_ | refine Agree.upd rfl ?_ | refine Agree.updL rfl ?_ | refine Agree.havoc2 rfl ?_)), ⟨rfl, trivial⟩⟩
    · replace h14 := of_decide_eq_false h14
      refine Plan.done ?_
      refine HW.cond_false rfl ?_
      refine HW.exit ?_
      refine HW.seq (HW.region [(0, .st)] rfl rfl ?_)
      refine Plan.assign (v := .bool _) rfl rfl rfl ?_
      refine Plan.done ?_
      exact HW.ret ⟨rfl, _, [], .tmp rfl .nil, List.nil_sublist _, rfl, rfl⟩

end Go.Proofs.Ytjmklbkcpjmcaaa.V
