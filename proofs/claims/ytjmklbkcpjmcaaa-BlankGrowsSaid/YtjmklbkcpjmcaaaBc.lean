/-
  BlankGrows, its contract.
-/
import Derived.Test.YtjmklbkcpjmcaaaBa
import Derived.Test.YtjmklbkcpjmcaaaHb
namespace Go.Proofs.Ytjmklbkcpjmcaaa.V
open Go Go.RowKit Go.Proofs.Ytjmklbkcpjmcaaa.H Go.Proofs.Ytjmklbkcpjmcaaa.LL
set_option linter.unusedVariables false
set_option linter.unusedSimpArgs false

theorem unduint8 : P.underlying 5 = some (.int .u8) := by kernel_rfl
theorem bsT1 (a b c : Int) (w : World) : (Instr.buildSlice 30 1 #[(0, itv a b c)]).run P w = .ok (.slice (some ⟨w.heap.size, 0, none⟩) 1 1) (w.alloc (.cells #[int a, int b, int c] 37 (0, 0))) := by kernel_rfl
theorem infapiItem : ∃ ti, P.info? 37 = some ti ∧ (ti.zero, ti.size, ti.bytes) = (some (itv 0 0 0), 3, 24) := by
  have e : (P.info? 37).map (fun ti => (ti.zero, ti.size, ti.bytes)) = some (some (itv 0 0 0), 3, 24) := by kernel_rfl
  obtain ⟨ti, h1, h2⟩ := Option.map_eq_some_iff.1 e
  exact ⟨ti, h1, h2⟩
abbrev ownT (o : Option Nat) (c : Nat) (xs : List It) : Res := Res.own encT 3 37 o c xs

def trI (i : It) : It := (i.2.1, i.1, i.2.2)
def drI (q : Int) (i : It) : It := (i.1, i.2.1, minI (i.2.2 + q) 1048576)
theorem bad_tr {l : List It} (h : l.any badI = false) : (l.map trI).any badI = false := by
  rw [List.any_eq_false] at h ⊢
  intro x hx
  obtain ⟨i, hi, rfl⟩ := List.mem_map.1 hx
  have := h i hi
  simp only [badI, decide_eq_true_eq] at this
  have h5 : badI (trI i) = false := by
    refine decide_eq_false ?_
    show ¬ (i.2.1 < 1 ∨ 100 < i.2.1 ∨ i.1 < 1 ∨ 100 < i.1 ∨ i.2.2 < 1 ∨ 1048576 < i.2.2)
    omega
  rw [h5]; decide
theorem bad_dr {l : List It} {q : Int} (hq : 0 ≤ q) (h : l.any badI = false) : (l.map (drI q)).any badI = false := by
  rw [List.any_eq_false] at h ⊢
  intro x hx
  obtain ⟨i, hi, rfl⟩ := List.mem_map.1 hx
  have := h i hi
  simp only [badI, decide_eq_true_eq] at this
  have h5 : badI (drI q i) = false := by
    refine decide_eq_false ?_
    show ¬ (i.1 < 1 ∨ 100 < i.1 ∨ i.2.1 < 1 ∨ 100 < i.2.1 ∨ minI (i.2.2 + q) 1048576 < 1 ∨ 1048576 < minI (i.2.2 + q) 1048576)
    unfold minI
    split <;> omega
  rw [h5]; decide
theorem W_tr (l : List It) {a b : Nat} (ha : 0 < a) (hb : 0 < b) : W (l.map trI) b a = W l a b := by
  have h1 : W l a b ≤ W (l.map trI) b a := W_turn_le (fun i hi => List.mem_map.2 ⟨i, hi, rfl⟩) (a + b) a b (Nat.le_refl _) ha hb
  have h2 : W (l.map trI) b a ≤ W l a b := W_turn_le (fun i hi => by
    obtain ⟨j, hj, rfl⟩ := List.mem_map.1 hi
    exact hj) (b + a) b a (Nat.le_refl _) hb ha
  omega
theorem W_dr (l : List It) {q : Int} (hq : 0 ≤ q) (h : l.any badI = false) {a b : Nat} (ha : 0 < a) (hb : 0 < b) : W l a b ≤ W (l.map (drI q)) a b :=
  W_dear (fun i hi => ⟨drI q i, List.mem_map.2 ⟨i, hi, rfl⟩, rfl, rfl, by
    have := List.any_eq_false.1 h i hi
    simp only [badI, decide_eq_true_eq] at this
    simp only [drI, minI]
    split <;> omega⟩) (a + b) a b (Nat.le_refl _) ha hb
theorem W_mono (l : List It) {a b a2 b2 : Nat} (ha : 0 < a) (hb : 0 < b) (h1 : a ≤ a2) (h2 : b ≤ b2) : W l a b ≤ W l a2 b2 := by
  obtain ⟨k, rfl⟩ := Nat.exists_eq_add_of_le h1
  obtain ⟨j, rfl⟩ := Nat.exists_eq_add_of_le h2
  exact Int.le_trans (W_mono_w l ha hb k) (W_mono_h l (by omega) hb j)

theorem Sees.nth {J : Jd} {L : List Res} {a : Addr} {vs : List Value} {v : Value} (h : Sees J L a vs) (j : Nat) (hv : vs[j]? = some v) : Sees J L (a.add j) [v] := fun w hm j' u hu => by
  cases j' with
  | zero =>
    simp only [List.getElem?_cons_zero, Option.some.injEq] at hu
    subst hu
    rw [H.add_add]
    exact h w hm j v hv
  | succ j' => cases hu

structure GrG where
  k : Nat
  o1 : Option Nat
  c1 : Nat
  o2 : Option Nat
  c2 : Nat

theorem Grows_far (A : Option Addr) (l : List It) (n c : Nat) (x y p q : Int) (w : World) (hn : n = l.length) (h30 : 30 < l.length) :
    Ct P 5 #[int x, int y, .slice A n c, .int .u8 p, .int .u8 q] w [] (fun r L => r = .bool true ∧ L = []) := by
  subst hn
  refine Ct.of_body (rs := [.tmp 10]) (N := 200) (L := []) Try.func5 rfl rfl rfl (by kernel_rfl) rfl (Mem.refl w) ?_
  refine HW.seq (HW.region [(0, .st)] rfl rfl ?_)
  refine Plan.assign (v := .bool _) rfl rfl rfl ?_
  refine Plan.done ?_
  refine HW.seq ?_
  refine HW.seq (HW.region [(0, .st), (1, .st), (2, .st)] rfl rfl ?_)
  refine Plan.move (v := .slice _ _ _) rfl rfl rfl ?_
  refine Plan.len rfl rfl slapiItem rfl ?_
  refine Plan.cmp2 rfl rfl rfl rfl rfl (fun h35 => ?_) (fun h35 => ?_)
  · replace h35 := of_decide_eq_true h35
    refine Plan.done ?_
    refine HW.cond_true rfl ?_
    refine HW.seq (HW.region [(0, .ef), (1, .st)] rfl rfl ?_)
    refine Plan.callF [] 0 rfl rfl rfl (.inl rfl) (by simp) (fun w hm => alive_ct w) ?_   -- tinplate/tinplatelaw04.alive
    rintro v Ln ⟨rfl, rfl⟩
    refine Plan.splitB (fun h36 => ?_) (fun h36 => ?_)
    · skip
      refine Plan.assign (v := .bool _) rfl rfl rfl ?_
      refine Plan.done ?_
      exact HW.ret ⟨rfl, _, [], .tmp rfl .nil, List.nil_sublist _, rfl, rfl⟩
    · skip
      exact absurd h36 (by decide)
  · replace h35 := of_decide_eq_false h35
    omega

theorem Grows_no (A : Option Addr) (l : List It) (n c : Nat) (x y p q : Int) (w : World) (hp : Rd encT 3 w A l) (hn : n = l.length) (h30 : l.length ≤ 30) (hs : sheetF x y l ≠ 0) :
    Ct P 5 #[int x, int y, .slice A n c, .int .u8 p, .int .u8 q] w [] (fun r L => r = .bool true ∧ L = []) := by
  subst hn
  refine Ct.of_body (rs := [.tmp 10]) (N := 200) (L := []) Try.func5 rfl rfl rfl (by kernel_rfl) rfl (Mem.refl w) ?_
  refine HW.seq (HW.region [(0, .st)] rfl rfl ?_)
  refine Plan.assign (v := .bool _) rfl rfl rfl ?_
  refine Plan.done ?_
  refine HW.seq ?_
  refine HW.seq (HW.region [(0, .st), (1, .st), (2, .st)] rfl rfl ?_)
  refine Plan.move (v := .slice _ _ _) rfl rfl rfl ?_
  refine Plan.len rfl rfl slapiItem rfl ?_
  refine Plan.cmp2 rfl rfl rfl rfl rfl (fun h35 => ?_) (fun h35 => ?_)
  · replace h35 := of_decide_eq_true h35
    omega
  · replace h35 := of_decide_eq_false h35
    refine Plan.done ?_
    refine HW.cond_false rfl ?_
    refine HW.skip ?_
    refine HW.seq (HW.region [(0, .st), (1, .st), (2, .st), (3, .ef), (4, .st), (5, .st), (6, .st), (7, .st), (8, .st), (9, .st), (10, .st)] rfl rfl ?_)
    refine Plan.move (v := .int _ _) rfl rfl rfl ?_
    refine Plan.move (v := .int _ _) rfl rfl rfl ?_
    refine Plan.move (v := .slice _ _ _) rfl rfl rfl ?_
    refine Plan.callF [] 0 rfl rfl rfl (.inl rfl) (by simp) (fun w hm => Best_no A l _ c x y w (hp.mem hm) rfl (by omega) hs) ?_   -- tinplate/blank.Best
    rintro v Ln ⟨rfl, rfl⟩
    refine Plan.move (v := .tuple _) rfl rfl rfl ?_
    refine Plan.extract (v := .int _ _) rfl rfl rfl rfl ?_
    refine Plan.extract (v := .slice _ _ _) rfl rfl rfl rfl ?_
    refine Plan.extract (v := .int _ _) rfl rfl rfl rfl ?_
    refine Plan.assign (v := .int _ _) rfl rfl rfl ?_
    refine Plan.assign (v := .slice _ _ _) rfl rfl rfl ?_
    refine Plan.assign (v := .int _ _) rfl rfl rfl ?_
    refine Plan.done ?_
    refine HW.seq ?_
    refine HW.seq (HW.region [(0, .st), (1, .st)] rfl rfl ?_)
    refine Plan.move (v := .int _ _) rfl rfl rfl ?_
    refine Plan.cmp2 rfl rfl rfl rfl rfl (fun h46 => ?_) (fun h46 => ?_)
    · replace h46 := ne_of_t h46
      refine Plan.done ?_
      refine HW.cond_true rfl ?_
      refine HW.seq (HW.region [(0, .ef), (1, .st)] rfl rfl ?_)
      refine Plan.callF [] 0 rfl rfl rfl (.inl rfl) (by simp) (fun w hm => alive_ct w) ?_   -- tinplate/tinplatelaw04.alive
      rintro v Ln ⟨rfl, rfl⟩
      refine Plan.splitB (fun h47 => ?_) (fun h47 => ?_)
      · skip
        refine Plan.assign (v := .bool _) rfl rfl rfl ?_
        refine Plan.done ?_
        exact HW.ret ⟨rfl, _, [], .tmp rfl .nil, List.nil_sublist _, rfl, rfl⟩
      · skip
        exact absurd h47 (by decide)
    · replace h46 := eq_of_f h46
      exact absurd h46 hs

set_option maxRecDepth 100000 in
theorem Grows_ok (A : Option Addr) (l : List It) (n c a b : Nat) (p q : Int) (w : World) (hp : Rd encT 3 w A l) (hn : n = l.length) (ha : 0 < a) (hb : 0 < b) (ha2 : a ≤ 100) (hb2 : b ≤ 100) (hlen : l.length ≤ 10) (hl : l.any badI = false)
    (p0 : 0 ≤ p) (p1 : p ≤ 255) (q0 : 0 ≤ q) (q1 : q ≤ 255) :
    Ct P 5 #[int a, int b, .slice A n c, .int .u8 p, .int .u8 q] w [] (fun r L => r = .bool true ∧ L = []) := by
  subst hn
  refine Ct.of_body (rs := [.tmp 10]) (N := 200) (L := []) Try.func5 rfl rfl rfl (by kernel_rfl) rfl (Mem.refl w) ?_
  refine HW.seq (HW.region [(0, .st)] rfl rfl ?_)
  refine Plan.assign (v := .bool _) rfl rfl rfl ?_
  refine Plan.done ?_
  refine HW.seq ?_
  refine HW.seq (HW.region [(0, .st), (1, .st), (2, .st)] rfl rfl ?_)
  refine Plan.move (v := .slice _ _ _) rfl rfl rfl ?_
  refine Plan.len rfl rfl slapiItem rfl ?_
  refine Plan.cmp2 rfl rfl rfl rfl rfl (fun h35 => ?_) (fun h35 => ?_)
  · replace h35 := of_decide_eq_true h35
    omega
  · replace h35 := of_decide_eq_false h35
    refine Plan.done ?_
    refine HW.cond_false rfl ?_
    refine HW.skip ?_
    refine HW.seq (HW.region [(0, .st), (1, .st), (2, .st), (3, .ef), (4, .st), (5, .st), (6, .st), (7, .st), (8, .st), (9, .st), (10, .st)] rfl rfl ?_)
    refine Plan.move (v := .int _ _) rfl rfl rfl ?_
    refine Plan.move (v := .int _ _) rfl rfl rfl ?_
    refine Plan.move (v := .slice _ _ _) rfl rfl rfl ?_
    refine Plan.callF [] 0 rfl rfl rfl (.inl rfl) (by simp) (fun w hm => Best_ok A l _ c a b w (hp.mem hm) rfl ha hb ha2 hb2 hlen hl) ?_   -- tinplate/blank.Best
    rintro v Ln ⟨o0, d0, rfl, rfl⟩
    refine Plan.move (v := .tuple _) rfl rfl rfl ?_
    refine Plan.extract (v := .int _ _) rfl rfl rfl rfl ?_
    refine Plan.extract (v := .slice _ _ _) rfl rfl rfl rfl ?_
    refine Plan.extract (v := .int _ _) rfl rfl rfl rfl ?_
    refine Plan.assign (v := .int _ _) rfl rfl rfl ?_
    refine Plan.assign (v := .slice _ _ _) rfl rfl rfl ?_
    refine Plan.assign (v := .int _ _) rfl rfl rfl ?_
    refine Plan.done ?_
    refine HW.seq ?_
    refine HW.seq (HW.region [(0, .st), (1, .st)] rfl rfl ?_)
    refine Plan.move (v := .int _ _) rfl rfl rfl ?_
    refine Plan.cmp2 rfl rfl rfl rfl rfl (fun h46 => ?_) (fun h46 => ?_)
    · replace h46 := ne_of_t h46
      exact absurd rfl h46
    · replace h46 := eq_of_f h46
      refine Plan.done ?_
      refine HW.cond_false rfl ?_
      refine HW.skip ?_
      refine HW.seq (HW.region [(0, .st), (1, .st)] rfl rfl ?_)
      refine Plan.assign (v := .slice _ _ _) rfl rfl rfl ?_
      refine Plan.assign (v := .slice _ _ _) rfl rfl rfl ?_
      refine Plan.done ?_
      refine HW.seq ?_
      refine HW.seq (HW.region [(0, .st)] rfl rfl ?_)
      refine Plan.assign (v := .int _ _) rfl rfl rfl ?_
      refine Plan.done ?_
      refine HW.block ?_
      refine HW.loopL (G := GrG) [14, 15, 16, 48, 49, 50, 51, 52, 53, 54, 55, 56, 57, 58, 59, 60, 61, 62, 63, 64, 65, 66, 67, 68, 69, 70, 71, 72, 73, 74, 75, 76, 77, 78, 79, 80, 81, 82, 83, 84, 85, 86, 87, 88, 89, 90, 91, 92, 93, 94, 95, 96] (fun g => [(14, slv g.o1 g.k g.c1), (15, slv g.o2 g.k g.c2), (16, int g.k)]) (fun g => [ownT g.o1 g.c1 ((l.take g.k).map trI), ownT g.o2 g.c2 ((l.take g.k).map (drI (q % 9)))]) (fun g => g.k ≤ l.length) (fun g => l.length - g.k) (⟨0, none, 0, none, 0⟩) ⟨rfl, rfl, rfl, trivial⟩ (fun w' hm => (hm.sub (List.nil_sublist _)).addNil.addNil) (Nat.zero_le _) (fun g F hok => ?_)
      obtain ⟨k, o1, c1, o2, c2⟩ := g
      simp only at hok
      dsimp only
      refine HW.seq ?_
      refine HW.seq (HW.region [(0, .st), (1, .st), (2, .st), (3, .st)] rfl rfl ?_)
      refine Plan.move (v := .int _ _) rfl rfl rfl ?_
      refine Plan.move (v := .slice _ _ _) rfl rfl rfl ?_
      refine Plan.len rfl rfl slapiItem rfl ?_
      refine Plan.cmp2 rfl rfl rfl rfl rfl (fun h51 => ?_) (fun h51 => ?_)
      · replace h51 := of_decide_eq_true h51
        have hlt : k < l.length := by omega
        obtain ⟨ad, rfl, hl1⟩ := hp k hlt
        have hbi := List.any_eq_false.1 hl l[k] (List.getElem_mem hlt)
        simp only [badI, decide_eq_true_eq] at hbi
        have hq9 : 0 ≤ q % 9 ∧ q % 9 ≤ 8 := by omega
        refine Plan.done ?_
        refine HW.cond_true rfl ?_
        refine HW.skip ?_
        refine HW.seq ?_
        refine HW.block ?_
        refine HW.seq (HW.region_any [18] [(0, .st), (1, .st), (2, .st), (3, .st), (4, .st), (5, .st), (6, .st), (7, .st), (8, .st), (9, .st), (10, .st), (11, .st), (12, .st), (13, .st), (14, .st), (15, .st), (16, .st), (17, .ef), (18, .ef), (19, .st)] mix (by kernel_rfl) (fun _ _ _ _ _ h => h) (zeros rfl) ?_)
        refine Plan.move (v := .slice _ _ _) rfl rfl rfl ?_
        refine Plan.move (v := .slice _ _ _) rfl rfl rfl ?_
        refine Plan.move (v := .int _ _) rfl rfl rfl ?_
        refine Plan.indexN (k) rfl rfl slapiItem sizapiItem rfl rfl rfl rfl (hlt) ?_
        refine Plan.fieldAddr rfl rfl fldItem1 rfl ?_
        refine Plan.load (v := .int _ _) rfl rfl aggI rfl (Sees.nth (Sees.old hl1 (by simp)) 1 rfl) ?_
        refine Plan.move (v := .slice _ _ _) rfl rfl rfl ?_
        refine Plan.move (v := .int _ _) rfl rfl rfl ?_
        refine Plan.indexN (k) rfl rfl slapiItem sizapiItem rfl rfl rfl rfl (hlt) ?_
        refine Plan.fieldAddr rfl rfl fldItem0 rfl ?_
        refine Plan.load (v := .int _ _) rfl rfl aggI rfl (Sees.nth (Sees.old hl1 (by simp)) 0 rfl) ?_
        refine Plan.move (v := .slice _ _ _) rfl rfl rfl ?_
        refine Plan.move (v := .int _ _) rfl rfl rfl ?_
        refine Plan.indexN (k) rfl rfl slapiItem sizapiItem rfl rfl rfl rfl (hlt) ?_
        refine Plan.fieldAddr rfl rfl fldItem2 rfl ?_
        refine Plan.load (v := .int _ _) rfl rfl aggI rfl (Sees.nth (Sees.old hl1 (by simp)) 2 rfl) ?_
        refine Plan.build rfl rfl rfl (bldItem _ _ _) ?_
        refine Plan.buildOwn (xs := [trI l[k]]) (enc := encT) (sz := 3) rfl rfl rfl (bsT1 _ _ _) rfl rfl (by simp) rfl fun b71 => ?_
        refine Plan.append (enc := encT) (sz := 3) (ys := [trI l[k]]) (1) rfl rfl (hDs (by decide)) slapiItem infapiItem rfl (by decide) encT3 encT1 rfl rfl (by simp; omega) rfl rfl (Sees.ownAll 0 rfl b71 rfl) (by simp; omega) (by simp; omega) fun o72 c72 => ?_
        refine Plan.assign (v := .slice _ _ _) rfl rfl rfl ?_
        refine Plan.done ?_
        refine HW.region_any [23] [(0, .st), (1, .st), (2, .st), (3, .st), (4, .st), (5, .st), (6, .st), (7, .st), (8, .st), (9, .st), (10, .st), (11, .st), (12, .st), (13, .st), (14, .st), (15, .st), (16, .st), (17, .st), (18, .st), (19, .st), (20, .st), (21, .st), (22, .ef), (23, .ef), (24, .st)] mix (by kernel_rfl) (fun _ _ _ _ _ h => h) (zeros rfl) ?_
        refine Plan.move (v := .slice _ _ _) rfl rfl rfl ?_
        refine Plan.move (v := .slice _ _ _) rfl rfl rfl ?_
        refine Plan.move (v := .int _ _) rfl rfl rfl ?_
        refine Plan.indexN (k) rfl rfl slapiItem sizapiItem rfl rfl rfl rfl (hlt) ?_
        refine Plan.fieldAddr rfl rfl fldItem0 rfl ?_
        refine Plan.load (v := .int _ _) rfl rfl aggI rfl (Sees.nth (Sees.old hl1 (by simp)) 0 rfl) ?_
        refine Plan.move (v := .slice _ _ _) rfl rfl rfl ?_
        refine Plan.move (v := .int _ _) rfl rfl rfl ?_
        refine Plan.indexN (k) rfl rfl slapiItem sizapiItem rfl rfl rfl rfl (hlt) ?_
        refine Plan.fieldAddr rfl rfl fldItem1 rfl ?_
        refine Plan.load (v := .int _ _) rfl rfl aggI rfl (Sees.nth (Sees.old hl1 (by simp)) 1 rfl) ?_
        refine Plan.move (v := .slice _ _ _) rfl rfl rfl ?_
        refine Plan.move (v := .int _ _) rfl rfl rfl ?_
        refine Plan.indexN (k) rfl rfl slapiItem sizapiItem rfl rfl rfl rfl (hlt) ?_
        refine Plan.fieldAddr rfl rfl fldItem2 rfl ?_
        refine Plan.load (v := .int _ _) rfl rfl aggI rfl (Sees.nth (Sees.old hl1 (by simp)) 2 rfl) ?_
        refine Plan.move (v := .int _ _) rfl rfl rfl ?_
        refine Plan.remU rfl rfl rfl rfl (by omega) ?_
        refine Plan.convI rfl rfl ⟨_, unduint8⟩ undI rfl (by omega) ?_
        refine Plan.arithI rfl rfl rfl rfl rfl (by omega) ?_
        refine Plan.min rfl rfl rfl rfl ?_
        refine Plan.build rfl rfl rfl (bldItem _ _ _) ?_
        refine Plan.buildOwn (xs := [drI (q % 9) l[k]]) (enc := encT) (sz := 3) rfl rfl rfl (bsT1 _ _ _) rfl rfl (by simp) rfl fun b95 => ?_
        refine Plan.append (enc := encT) (sz := 3) (ys := [drI (q % 9) l[k]]) (3) rfl rfl (hDs (by decide)) slapiItem infapiItem rfl (by decide) encT3 encT1 rfl rfl (by simp; omega) rfl rfl (Sees.ownAll 0 rfl b95 rfl) (by simp; omega) (by simp; omega) fun o96 c96 => ?_
        refine Plan.assign (v := .slice _ _ _) rfl rfl rfl ?_
        refine Plan.done ?_
        refine HW.region [(0, .st), (1, .st), (2, .st)] rfl rfl ?_
        refine Plan.move (v := .int _ _) rfl rfl rfl ?_
        refine Plan.arithI rfl rfl rfl rfl rfl (by omega) ?_
        refine Plan.assign (v := .int _ _) rfl rfl rfl ?_
        refine Plan.done ?_
        exact ⟨⟨k + 1, o72, c72, o96, c96⟩, by dsimp only; omega, hlt, rfl, (fun w' hm => by
            have e1 : (l.take (k + 1)).map trI = (l.take k).map trI ++ [trI l[k]] := by rw [List.take_add_one, List.getElem?_eq_getElem hlt, List.map_append]; rfl
            have e2 : (l.take (k + 1)).map (drI (q % 9)) = (l.take k).map (drI (q % 9)) ++ [drI (q % 9) l[k]] := by rw [List.take_add_one, List.getElem?_eq_getElem hlt, List.map_append]; rfl
            show Mem _ _ [ownT o72 c72 ((l.take (k + 1)).map trI), ownT o96 c96 ((l.take (k + 1)).map (drI (q % 9)))] w'
            rw [e1, e2]
            exact hm.sub (.cons _ (.cons _ (.refl _)))), (by repeat (first | exact Agree.havoc _ _ _ | refine Agree.updN ?_ | refine Agree.upd rfl ?_ | refine Agree.updL rfl ?_ | refine Agree.havoc2 rfl ?_)), ⟨slv_eq (by simp; omega), slv_eq (by simp; omega), rfl, trivial⟩⟩
      · replace h51 := of_decide_eq_false h51
        have hke : k = l.length := by omega
        subst hke
        rw [List.take_length]
        refine Plan.done ?_
        refine HW.cond_false rfl ?_
        refine HW.exit ?_
        refine HW.seq (HW.region [(0, .st), (1, .st), (2, .st), (3, .ef), (4, .st), (5, .st), (6, .st), (7, .st), (8, .st), (9, .st), (10, .st)] rfl rfl ?_)
        refine Plan.move (v := .int _ _) rfl rfl rfl ?_
        refine Plan.move (v := .int _ _) rfl rfl rfl ?_
        refine Plan.move (v := .slice _ _ _) rfl rfl rfl ?_
        refine Plan.callF [] 0 rfl rfl rfl (.inl rfl) (by simp) (fun w hm => Best_ok (at0 o1) (l.map trI) _ c1 b a w (Res.own_rd encT3 (hm.res (ownT o1 c1 (l.map trI)) (by simp))) (by simp) hb ha hb2 ha2 (by simpa using hlen) (bad_tr hl)) ?_   -- tinplate/blank.Best
        rintro v Ln ⟨o3, d3, rfl, rfl⟩
        refine Plan.move (v := .tuple _) rfl rfl rfl ?_
        refine Plan.extract (v := .int _ _) rfl rfl rfl rfl ?_
        refine Plan.extract (v := .slice _ _ _) rfl rfl rfl rfl ?_
        refine Plan.extract (v := .int _ _) rfl rfl rfl rfl ?_
        refine Plan.assign (v := .int _ _) rfl rfl rfl ?_
        refine Plan.assign (v := .slice _ _ _) rfl rfl rfl ?_
        refine Plan.assign (v := .int _ _) rfl rfl rfl ?_
        refine Plan.done ?_
        refine HW.seq (HW.region [(0, .st), (1, .st), (2, .st), (3, .ef), (4, .st), (5, .st), (6, .st), (7, .st), (8, .st), (9, .st), (10, .st)] rfl rfl ?_)
        refine Plan.move (v := .int _ _) rfl rfl rfl ?_
        refine Plan.move (v := .int _ _) rfl rfl rfl ?_
        refine Plan.move (v := .slice _ _ _) rfl rfl rfl ?_
        refine Plan.callF [] 0 rfl rfl rfl (.inl rfl) (by simp) (fun w hm => Best_ok (at0 o2) (l.map (drI (q % 9))) _ c2 a b w (Res.own_rd encT3 (hm.res (ownT o2 c2 (l.map (drI (q % 9)))) (by simp))) (by simp) ha hb ha2 hb2 (by simpa using hlen) (bad_dr (by omega) hl)) ?_   -- tinplate/blank.Best
        rintro v Ln ⟨o4, d4, rfl, rfl⟩
        refine Plan.move (v := .tuple _) rfl rfl rfl ?_
        refine Plan.extract (v := .int _ _) rfl rfl rfl rfl ?_
        refine Plan.extract (v := .slice _ _ _) rfl rfl rfl rfl ?_
        refine Plan.extract (v := .int _ _) rfl rfl rfl rfl ?_
        refine Plan.assign (v := .int _ _) rfl rfl rfl ?_
        refine Plan.assign (v := .slice _ _ _) rfl rfl rfl ?_
        refine Plan.assign (v := .int _ _) rfl rfl rfl ?_
        refine Plan.done ?_
        obtain ⟨a2, hs1⟩ : ∃ a2 : Nat, minI ((a : Int) + q % 3) 100 = (a2 : Int) := ⟨(minI ((a : Int) + q % 3) 100).toNat, by unfold minI; split <;> omega⟩
        obtain ⟨b2, hs2⟩ : ∃ b2 : Nat, minI ((b : Int) + q / 3 % 3) 100 = (b2 : Int) := ⟨(minI ((b : Int) + q / 3 % 3) 100).toNat, by unfold minI; split <;> omega⟩
        have hr1 : a ≤ a2 ∧ a2 ≤ 100 := by unfold minI at hs1; split at hs1 <;> omega
        have hr2 : b ≤ b2 ∧ b2 ≤ 100 := by unfold minI at hs2; split at hs2 <;> omega
        have hm3 := W_mono l ha hb hr1.1 hr2.1
        have hm1 := W_tr l ha hb
        have hm2 := W_dr l (q := q % 9) (by omega) hl ha hb
        refine HW.seq (HW.region [(0, .st), (1, .st), (2, .st), (3, .st), (4, .st), (5, .st), (6, .st), (7, .st), (8, .st), (9, .st), (10, .st), (11, .st), (12, .st), (13, .st), (14, .ef), (15, .st), (16, .st), (17, .st), (18, .st), (19, .st), (20, .st), (21, .st)] rfl rfl ?_)
        refine Plan.move (v := .int _ _) rfl rfl rfl ?_
        refine Plan.move (v := .int _ _) rfl rfl rfl ?_
        refine Plan.remU rfl rfl rfl rfl (by omega) ?_
        refine Plan.convI rfl rfl ⟨_, unduint8⟩ undI rfl (by omega) ?_
        refine Plan.arithI rfl rfl rfl rfl rfl (by omega) ?_
        refine Plan.min rfl rfl rfl rfl ?_
        refine Plan.move (v := .int _ _) rfl rfl rfl ?_
        refine Plan.move (v := .int _ _) rfl rfl rfl ?_
        refine Plan.quoU rfl rfl rfl rfl (by omega) ?_
        refine Plan.remU rfl rfl rfl rfl (by omega) ?_
        refine Plan.convI rfl rfl ⟨_, unduint8⟩ undI rfl (by omega) ?_
        refine Plan.arithI rfl rfl rfl rfl rfl (by omega) ?_
        refine Plan.min rfl rfl rfl rfl ?_
        refine Plan.move (v := .slice _ _ _) rfl rfl rfl ?_
        refine Plan.callF [] 0 rfl rfl rfl (.inl rfl) (by simp) (fun w hm => (by rw [hs1, hs2]; exact Best_ok A l _ c a2 b2 w (hp.mem hm) rfl (by omega) (by omega) hr1.2 hr2.2 hlen hl)) ?_   -- tinplate/blank.Best
        rintro v Ln ⟨o5, d5, rfl, rfl⟩
        refine Plan.move (v := .tuple _) rfl rfl rfl ?_
        refine Plan.extract (v := .int _ _) rfl rfl rfl rfl ?_
        refine Plan.extract (v := .slice _ _ _) rfl rfl rfl rfl ?_
        refine Plan.extract (v := .int _ _) rfl rfl rfl rfl ?_
        refine Plan.assign (v := .int _ _) rfl rfl rfl ?_
        refine Plan.assign (v := .slice _ _ _) rfl rfl rfl ?_
        refine Plan.assign (v := .int _ _) rfl rfl rfl ?_
        refine Plan.done ?_
        refine HW.seq ?_
        refine HW.seq (HW.region [(0, .st), (1, .st), (2, .st), (3, .st), (4, .st), (5, .st), (6, .st), (7, .st), (8, .st), (9, .st), (10, .st), (11, .st), (12, .st), (13, .st), (14, .st), (15, .st), (16, .st), (17, .st), (18, .st), (19, .st), (20, .st), (21, .st), (22, .st), (23, .st), (24, .st)] rfl rfl ?_)
        refine Plan.move (v := .int _ _) rfl rfl rfl ?_
        refine Plan.cmp2 rfl rfl rfl rfl rfl (fun h133 => ?_) (fun h133 => ?_)
        · replace h133 := ne_of_t h133
          exact absurd rfl h133
        · replace h133 := eq_of_f h133
          refine Plan.move (v := .bool _) rfl rfl rfl ?_
          refine Plan.move (v := .int _ _) rfl rfl rfl ?_
          refine Plan.cmp2 rfl rfl rfl rfl rfl (fun h136 => ?_) (fun h136 => ?_)
          · replace h136 := ne_of_t h136
            exact absurd rfl h136
          · replace h136 := eq_of_f h136
            refine Plan.pick (v := .bool _) rfl rfl rfl rfl ?_
            refine Plan.move (v := .bool _) rfl rfl rfl ?_
            refine Plan.move (v := .int _ _) rfl rfl rfl ?_
            refine Plan.cmp2 rfl rfl rfl rfl rfl (fun h140 => ?_) (fun h140 => ?_)
            · replace h140 := ne_of_t h140
              exact absurd rfl h140
            · replace h140 := eq_of_f h140
              refine Plan.pick (v := .bool _) rfl rfl rfl rfl ?_
              refine Plan.move (v := .bool _) rfl rfl rfl ?_
              refine Plan.move (v := .int _ _) rfl rfl rfl ?_
              refine Plan.move (v := .int _ _) rfl rfl rfl ?_
              refine Plan.cmp2 rfl rfl rfl rfl rfl (fun h145 => ?_) (fun h145 => ?_)
              · replace h145 := ne_of_t h145
                exact absurd hm1 h145
              · replace h145 := eq_of_f h145
                refine Plan.pick (v := .bool _) rfl rfl rfl rfl ?_
                refine Plan.move (v := .bool _) rfl rfl rfl ?_
                refine Plan.move (v := .int _ _) rfl rfl rfl ?_
                refine Plan.move (v := .int _ _) rfl rfl rfl ?_
                refine Plan.cmp2 rfl rfl rfl rfl rfl (fun h150 => ?_) (fun h150 => ?_)
                · replace h150 := of_decide_eq_true h150
                  omega
                · replace h150 := of_decide_eq_false h150
                  refine Plan.pick (v := .bool _) rfl rfl rfl rfl ?_
                  refine Plan.move (v := .bool _) rfl rfl rfl ?_
                  refine Plan.move (v := .int _ _) rfl rfl rfl ?_
                  refine Plan.move (v := .int _ _) rfl rfl rfl ?_
                  refine Plan.cmp2 rfl rfl rfl rfl rfl (fun h155 => ?_) (fun h155 => ?_)
                  · replace h155 := of_decide_eq_true h155
                    omega
                  · replace h155 := of_decide_eq_false h155
                    refine Plan.pick (v := .bool _) rfl rfl rfl rfl ?_
                    refine Plan.done ?_
                    refine HW.cond_false rfl ?_
                    refine HW.skip ?_
                    refine HW.seq ?_
                    refine HW.seq (HW.region [(0, .st), (1, .st)] rfl rfl ?_)
                    refine Plan.move (v := .int _ _) rfl rfl rfl ?_
                    refine Plan.cmp2 rfl rfl rfl rfl rfl (fun h158 => ?_) (fun h158 => ?_)
                    · replace h158 := of_decide_eq_true h158
                      refine Plan.done ?_
                      refine HW.cond_true rfl ?_
                      refine HW.seq (HW.region [(0, .ef), (1, .st)] rfl rfl ?_)
                      refine Plan.callF [] 0 rfl rfl rfl (.inl rfl) (by simp) (fun w hm => alive_ct w) ?_   -- tinplate/tinplatelaw04.alive
                      rintro v Ln ⟨rfl, rfl⟩
                      refine Plan.splitB (fun h159 => ?_) (fun h159 => ?_)
                      · skip
                        refine Plan.assign (v := .bool _) rfl rfl rfl ?_
                        refine Plan.done ?_
                        exact HW.ret ⟨rfl, _, [], .tmp rfl .nil, List.nil_sublist _, rfl, rfl⟩
                      · skip
                        exact absurd h159 (by decide)
                    · replace h158 := of_decide_eq_false h158
                      obtain ⟨x, hx⟩ : ∃ x : Nat, (1 : Int) + p % ((a : Int) - 1) = (x : Int) := ⟨((1 : Int) + p % ((a : Int) - 1)).toNat, by have := Int.emod_nonneg p (show (a : Int) - 1 ≠ 0 by omega); omega⟩
                      have hx2 : 0 < x ∧ x < a := by
                        have e1 := Int.emod_nonneg p (show (a : Int) - 1 ≠ 0 by omega)
                        have e2 := Int.emod_lt_of_pos p (show 0 < (a : Int) - 1 by omega)
                        omega
                      have hc1 := (le_W l ha hb).2.2.1 x hx2.1 hx2.2
                      have w1 := W_bds hl (a := x) (b := b) hx2.1 hb (by omega) hb2
                      have w2 := W_bds hl (a := a - x) (b := b) (by omega) hb (by omega) hb2
                      refine Plan.done ?_
                      refine HW.cond_false rfl ?_
                      refine HW.skip ?_
                      refine HW.seq (HW.region [(0, .st), (1, .st), (2, .st), (3, .st), (4, .st), (5, .st), (6, .st)] rfl rfl ?_)
                      refine Plan.move (v := .int _ _) rfl rfl rfl ?_
                      refine Plan.convI rfl rfl ⟨_, unduint8⟩ undI rfl (by omega) ?_
                      refine Plan.move (v := .int _ _) rfl rfl rfl ?_
                      refine Plan.arithI rfl rfl rfl rfl rfl (by omega) ?_
                      refine Plan.rem rfl rfl rfl rfl (by omega) ?_
                      refine Plan.arithI rfl rfl rfl rfl rfl (by omega) ?_
                      refine Plan.assign (v := .int _ _) rfl rfl rfl ?_
                      refine Plan.done ?_
                      refine HW.seq (HW.region [(0, .st), (1, .st), (2, .st), (3, .ef), (4, .st), (5, .st), (6, .st), (7, .st), (8, .st), (9, .st), (10, .st)] rfl rfl ?_)
                      refine Plan.move (v := .int _ _) rfl rfl rfl ?_
                      refine Plan.move (v := .int _ _) rfl rfl rfl ?_
                      refine Plan.move (v := .slice _ _ _) rfl rfl rfl ?_
                      refine Plan.callF [] 0 rfl rfl rfl (.inl rfl) (by simp) (fun w hm => (by rw [hx]; exact Best_ok A l _ c x b w (hp.mem hm) rfl hx2.1 hb (by omega) hb2 hlen hl)) ?_   -- tinplate/blank.Best
                      rintro v Ln ⟨o6, d6, rfl, rfl⟩
                      refine Plan.move (v := .tuple _) rfl rfl rfl ?_
                      refine Plan.extract (v := .int _ _) rfl rfl rfl rfl ?_
                      refine Plan.extract (v := .slice _ _ _) rfl rfl rfl rfl ?_
                      refine Plan.extract (v := .int _ _) rfl rfl rfl rfl ?_
                      refine Plan.assign (v := .int _ _) rfl rfl rfl ?_
                      refine Plan.assign (v := .slice _ _ _) rfl rfl rfl ?_
                      refine Plan.assign (v := .int _ _) rfl rfl rfl ?_
                      refine Plan.done ?_
                      refine HW.seq (HW.region [(0, .st), (1, .st), (2, .st), (3, .st), (4, .st), (5, .ef), (6, .st), (7, .st), (8, .st), (9, .st), (10, .st), (11, .st), (12, .st)] rfl rfl ?_)
                      refine Plan.move (v := .int _ _) rfl rfl rfl ?_
                      refine Plan.move (v := .int _ _) rfl rfl rfl ?_
                      refine Plan.arithI rfl rfl rfl rfl rfl (by omega) ?_
                      refine Plan.move (v := .int _ _) rfl rfl rfl ?_
                      refine Plan.move (v := .slice _ _ _) rfl rfl rfl ?_
                      refine Plan.callF [] 0 rfl rfl rfl (.inl rfl) (by simp) (fun w hm => (by rw [hx, show ((a : Int) - (x : Int)) = ((a - x : Nat) : Int) by omega]; exact Best_ok A l _ c (a - x) b w (hp.mem hm) rfl (by omega) hb (by omega) hb2 hlen hl)) ?_   -- tinplate/blank.Best
                      rintro v Ln ⟨o7, d7, rfl, rfl⟩
                      refine Plan.move (v := .tuple _) rfl rfl rfl ?_
                      refine Plan.extract (v := .int _ _) rfl rfl rfl rfl ?_
                      refine Plan.extract (v := .slice _ _ _) rfl rfl rfl rfl ?_
                      refine Plan.extract (v := .int _ _) rfl rfl rfl rfl ?_
                      refine Plan.assign (v := .int _ _) rfl rfl rfl ?_
                      refine Plan.assign (v := .slice _ _ _) rfl rfl rfl ?_
                      refine Plan.assign (v := .int _ _) rfl rfl rfl ?_
                      refine Plan.done ?_
                      refine HW.seq (HW.region [(0, .st), (1, .st), (2, .st), (3, .st), (4, .st), (5, .st), (6, .st), (7, .st), (8, .st), (9, .st), (10, .st), (11, .st), (12, .st), (13, .st), (14, .ef), (15, .st), (16, .st)] rfl rfl ?_)
                      refine Plan.move (v := .int _ _) rfl rfl rfl ?_
                      refine Plan.cmp2 rfl rfl rfl rfl rfl (fun h185 => ?_) (fun h185 => ?_)
                      · replace h185 := of_decide_eq_true h185
                        refine Plan.move (v := .bool _) rfl rfl rfl ?_
                        refine Plan.move (v := .int _ _) rfl rfl rfl ?_
                        refine Plan.cmp2 rfl rfl rfl rfl rfl (fun h188 => ?_) (fun h188 => ?_)
                        · replace h188 := of_decide_eq_true h188
                          refine Plan.pick (v := .bool _) rfl rfl rfl rfl ?_
                          refine Plan.move (v := .bool _) rfl rfl rfl ?_
                          refine Plan.move (v := .int _ _) rfl rfl rfl ?_
                          refine Plan.move (v := .int _ _) rfl rfl rfl ?_
                          refine Plan.arithI rfl rfl rfl rfl rfl (by omega) ?_
                          refine Plan.move (v := .int _ _) rfl rfl rfl ?_
                          refine Plan.cmp2 rfl rfl rfl rfl rfl (fun h195 => ?_) (fun h195 => ?_)
                          · replace h195 := of_decide_eq_true h195
                            refine Plan.pick (v := .bool _) rfl rfl rfl rfl ?_
                            refine Plan.move (v := .bool _) rfl rfl rfl ?_
                            refine Plan.callF [] 0 rfl rfl rfl (.inl rfl) (by simp) (fun w hm => alive_ct w) ?_   -- tinplate/tinplatelaw04.alive
                            rintro v Ln ⟨rfl, rfl⟩
                            refine Plan.splitB (fun h198 => ?_) (fun h198 => ?_)
                            · skip
                              refine Plan.pick (v := .bool _) rfl rfl rfl rfl ?_
                              refine Plan.assign (v := .bool _) rfl rfl rfl ?_
                              refine Plan.done ?_
                              exact HW.ret ⟨rfl, _, [], .tmp rfl .nil, List.nil_sublist _, rfl, rfl⟩
                            · skip
                              exact absurd h198 (by decide)
                          · replace h195 := of_decide_eq_false h195
                            omega
                        · replace h188 := of_decide_eq_false h188
                          exact absurd rfl h188
                      · replace h185 := of_decide_eq_false h185
                        exact absurd rfl h185

theorem blankGrows_ct (A : Option Addr) (x y : Int) (l : List It) (p q : Int) (n c : Nat) (w : World) (hp : Rd encT 3 w A l) (hn : n = l.length) (p0 : 0 ≤ p) (p1 : p ≤ 255) (q0 : 0 ≤ q) (q1 : q ≤ 255) :
    Ct P 5 #[int x, int y, .slice A n c, .int .u8 p, .int .u8 q] w [] (fun r L => r = .bool true ∧ L = []) := by
  by_cases h30 : l.length ≤ 30
  · by_cases hs : sheetF x y l = 0
    · obtain ⟨x1, x2, y1, y2, hlen, hl⟩ := sheetF_ok hs
      obtain ⟨a, rfl⟩ := Int.eq_ofNat_of_zero_le (show 0 ≤ x by omega)
      obtain ⟨b, rfl⟩ := Int.eq_ofNat_of_zero_le (show 0 ≤ y by omega)
      exact Grows_ok A l n c a b p q w hp hn (by omega) (by omega) (by omega) (by omega) hlen hl p0 p1 q0 q1
    · exact Grows_no A l n c x y p q w hp hn h30 hs
  · exact Grows_far A l n c x y p q w hn (by omega)

end Go.Proofs.Ytjmklbkcpjmcaaa.V
