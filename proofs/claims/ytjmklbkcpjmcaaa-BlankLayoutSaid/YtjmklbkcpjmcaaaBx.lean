/-
  BlankLayout, its contract.
-/
import Derived.Test.YtjmklbkcpjmcaaaA1
import Derived.Test.YtjmklbkcpjmcaaaBu
import Derived.Test.YtjmklbkcpjmcaaaBv
import Derived.Test.YtjmklbkcpjmcaaaBa
namespace Go.Proofs.Ytjmklbkcpjmcaaa.V
open Go Go.RowKit Go.Proofs.Ytjmklbkcpjmcaaa.H Go.Proofs.Ytjmklbkcpjmcaaa.LL
set_option linter.unusedVariables false
set_option linter.unusedSimpArgs false

theorem unduint8 : P.underlying 5 = some (.int .u8) := by kernel_rfl

theorem Layout_far (A : Option Addr) (p : List Pt) (n c : Nat) (a b d x y : Int) (o : Pt) (q : Int) (w : World) (hn : n = p.length) (h60 : ¬ p.length ≤ 60) :
    Ct P 12 #[.slice A n c, gdv a b d, int x, int y, vc o, .int .u8 q] w [] (fun r L => r = .bool true ∧ L = []) := by
  subst hn
  refine Ct.of_body (rs := [.tmp 12]) (N := 268) (L := []) Try.func12 rfl rfl rfl (by kernel_rfl) rfl (Mem.refl w) ?_
  refine HW.seq (HW.region [(0, .ef), (1, .ef), (2, .st)] rfl rfl ?_)
  refine Plan.boxA rfl rfl rfl fun b7 => ?_
  refine Plan.boxA rfl rfl rfl fun b10 => ?_
  refine Plan.assign (v := .bool _) rfl rfl rfl ?_
  refine Plan.done ?_
  refine HW.seq ?_
  refine HW.seq (HW.region [(0, .st), (1, .ef), (2, .st)] rfl rfl ?_)
  refine Plan.move (v := .slice _ _ _) rfl rfl rfl ?_
  refine Plan.callF [] 0 rfl rfl rfl (.inl rfl) (by simp) (fun w hm => few_ct A p _ c w rfl) ?_
  rintro v Ln ⟨rfl, rfl⟩
  refine Plan.splitB (fun h25 => ?_) (fun h25 => ?_)
  · skip
    exact absurd (of_decide_eq_true h25) h60
  · skip
    refine Plan.not rfl rfl rfl ?_
    refine Plan.done ?_
    refine HW.cond_true rfl ?_
    refine HW.seq (HW.region [(0, .ef), (1, .st)] rfl rfl ?_)
    refine Plan.callF [] 0 rfl rfl rfl (.inl rfl) (by simp) (fun w hm => alive_ct w) ?_
    rintro v Ln ⟨rfl, rfl⟩
    refine Plan.splitB (fun h27 => ?_) (fun h27 => ?_)
    · skip
      refine Plan.assign (v := .bool _) rfl rfl rfl ?_
      refine Plan.done ?_
      exact HW.ret ⟨rfl, _, [], .tmp rfl .nil, List.nil_sublist _, rfl, rfl⟩
    · skip
      exact absurd h27 (by decide)

theorem Layout_no (A : Option Addr) (p : List Pt) (n c : Nat) (a b d x y : Int) (o : Pt) (q : Int) (w : World) (hp : Rd enc 2 w A p) (hn : n = p.length) (h60 : p.length ≤ 60) (hL : LayB p (a, b, d) x y = false) :
    Ct P 12 #[.slice A n c, gdv a b d, int x, int y, vc o, .int .u8 q] w [] (fun r L => r = .bool true ∧ L = []) := by
  subst hn
  have hF : LayF p (a, b, d) x y = ([], 2) := by rw [LayF, if_neg (by rw [hL]; decide)]
  refine Ct.of_body (rs := [.tmp 12]) (N := 268) (L := []) Try.func12 rfl rfl rfl (by kernel_rfl) rfl (Mem.refl w) ?_
  refine HW.seq (HW.region [(0, .ef), (1, .ef), (2, .st)] rfl rfl ?_)
  refine Plan.boxA rfl rfl rfl fun b7 => ?_
  refine Plan.boxA rfl rfl rfl fun b10 => ?_
  refine Plan.assign (v := .bool _) rfl rfl rfl ?_
  refine Plan.done ?_
  refine HW.seq ?_
  refine HW.seq (HW.region [(0, .st), (1, .ef), (2, .st)] rfl rfl ?_)
  refine Plan.move (v := .slice _ _ _) rfl rfl rfl ?_
  refine Plan.callF [] 0 rfl rfl rfl (.inl rfl) (by simp) (fun w hm => few_ct A p _ c w rfl) ?_
  rintro v Ln ⟨rfl, rfl⟩
  refine Plan.splitB (fun h25 => ?_) (fun h25 => ?_)
  · skip
    refine Plan.not rfl rfl rfl ?_
    refine Plan.done ?_
    refine HW.cond_false rfl ?_
    refine HW.skip ?_
    refine HW.seq (HW.region [(0, .st), (1, .st), (2, .st), (3, .st), (4, .ef), (5, .st), (6, .st), (7, .st), (8, .st), (9, .st)] rfl rfl ?_)
    refine Plan.move (v := .slice _ _ _) rfl rfl rfl ?_
    refine Plan.loadAll 1 rfl rfl aggGrid sizGrid rfl rfl rfl ?_
    refine Plan.move (v := .int _ _) rfl rfl rfl ?_
    refine Plan.move (v := .int _ _) rfl rfl rfl ?_
    refine Plan.callF [] 0 rfl rfl rfl (.inl rfl) (by simp) (fun w hm => (by have h5 := LayB_ct A p p.length c a b d x y w (hp.mem hm) rfl (by omega); rw [hF] at h5; exact h5)) ?_
    rintro v Ln ⟨o1, c1, rfl, rfl⟩
    refine Plan.move (v := .tuple _) rfl rfl rfl ?_
    refine Plan.extract (v := .slice _ _ _) rfl rfl rfl rfl ?_
    refine Plan.extract (v := .int _ _) rfl rfl rfl rfl ?_
    refine Plan.assign (v := .slice _ _ _) rfl rfl rfl ?_
    refine Plan.assign (v := .int _ _) rfl rfl rfl ?_
    refine Plan.done ?_
    refine HW.seq ?_
    refine HW.seq (HW.region [(0, .st), (1, .st)] rfl rfl ?_)
    refine Plan.move (v := .int _ _) rfl rfl rfl ?_
    refine Plan.cmp2 rfl rfl rfl rfl rfl (fun h37 => ?_) (fun h37 => ?_)
    · replace h37 := ne_of_t h37
      refine Plan.done ?_
      refine HW.cond_true rfl ?_
      refine HW.seq (HW.region [(0, .st), (1, .st), (2, .st), (3, .st), (4, .st), (5, .st), (6, .st), (7, .st), (8, .ef), (9, .st), (10, .st)] rfl rfl ?_)
      refine Plan.move (v := .int _ _) rfl rfl rfl ?_
      refine Plan.cmp2 rfl rfl rfl rfl rfl (fun h39 => ?_) (fun h39 => ?_)
      · replace h39 := of_decide_eq_true h39
        refine Plan.move (v := .bool _) rfl rfl rfl ?_
        refine Plan.move (v := .slice _ _ _) rfl rfl rfl ?_
        refine Plan.len rfl rfl slV rfl ?_
        refine Plan.cmp2 rfl rfl rfl rfl rfl (fun h43 => ?_) (fun h43 => ?_)
        · replace h43 := of_decide_eq_true h43
          refine Plan.pick (v := .bool _) rfl rfl rfl rfl ?_
          refine Plan.move (v := .bool _) rfl rfl rfl ?_
          refine Plan.callF [] 0 rfl rfl rfl (.inl rfl) (by simp) (fun w hm => alive_ct w) ?_
          rintro v Ln ⟨rfl, rfl⟩
          refine Plan.splitB (fun h46 => ?_) (fun h46 => ?_)
          · skip
            refine Plan.pick (v := .bool _) rfl rfl rfl rfl ?_
            refine Plan.assign (v := .bool _) rfl rfl rfl ?_
            refine Plan.done ?_
            exact HW.ret ⟨rfl, _, [], .tmp rfl .nil, List.nil_sublist _, rfl, rfl⟩
          · skip
            exact absurd h46 (by decide)
        · replace h43 := of_decide_eq_false h43
          exact absurd rfl h43
      · replace h39 := of_decide_eq_false h39
        exact absurd rfl h39
    · replace h37 := eq_of_f h37
      exact absurd h37 (by decide)
  · skip
    exact absurd h60 (of_decide_eq_false h25)

theorem minI_bd {u : Int} (h : 1 ≤ u) : 1 ≤ minI u 100 ∧ minI u 100 ≤ 100 := by unfold minI; split <;> omega
theorem minI_ge {u v : Int} (h : u ≤ v) (h2 : u ≤ 100) : u ≤ minI v 100 := by unfold minI; split <;> omega

set_option maxRecDepth 100000 in
set_option maxHeartbeats 4000000 in
theorem Layout_ok (A : Option Addr) (p : List Pt) (n c : Nat) (a b d x y : Int) (o : Pt) (q : Int) (w : World) (hp : Rd enc 2 w A p) (hn : n = p.length) (h60 : p.length ≤ 60) (hb : blankF p = true) (hg : goodG (a, b, d) = true) (hadm : admB p (a, b, d) = true) (hx : 1 ≤ x ∧ x ≤ 100) (hy : 1 ≤ y ∧ y ≤ 100) (q0 : 0 ≤ q) (q1 : q ≤ 255) :
    Ct P 12 #[.slice A n c, gdv a b d, int x, int y, vc o, .int .u8 q] w [] (fun r L => r = .bool true ∧ L = []) := by
  subst hn
  have hF : LayF p (a, b, d) x y = (LayL p (a, b, d) x y, 0) := by rw [LayF, if_pos (by rw [LayB, hb, hg, hadm, decide_eq_true ⟨hx.1, hx.2, hy.1, hy.2⟩]; rfl)]
  have hm1 := minI_bd (u := x + q % 8) (by omega)
  have hm2 := minI_bd (u := y + q / 8 % 8) (by omega)
  have hF2 : LayF p (a, b, d) (minI (x + q % 8) 100) (minI (y + q / 8 % 8) 100) = (LayL p (a, b, d) (minI (x + q % 8) 100) (minI (y + q / 8 % 8) 100), 0) := by
    rw [LayF, if_pos (by rw [LayB, hb, hg, hadm, decide_eq_true ⟨hm1.1, hm1.2, hm2.1, hm2.2⟩]; rfl)]
  have hgrow := lay_grow hg p (minI_ge (u := x) (v := x + q % 8) (by omega) hx.2) (minI_ge (u := y) (v := y + q / 8 % 8) (by omega) hy.2)
  have hmost := lay_most hg p x y (o.1.tmod 1000, o.2.tmod 1000)
  obtain ⟨a1, a2, d1, d2, b1, b2⟩ := good_spec hg
  have hMin : ∀ v ∈ LayL p (a, b, d) x y, v ∈ pls p x y := fun v hv => by
    unfold LayL clsF at hv
    exact (List.mem_filter.1 hv).1
  have hbd : ∀ v ∈ LayL p (a, b, d) x y, Bd 100 v.1 ∧ Bd 100 v.2 := fun v hv => pls_bd hb hx.2 hy.2 (hMin v hv)
  have hsort : (LayL p (a, b, d) x y).Pairwise below := cls_sorted p (a, b, d) x y _
  have hnd : (LayL p (a, b, d) x y).Nodup := cls_nodup p (a, b, d) x y _
  have hlen : (LayL p (a, b, d) x y).length ≤ 10201 := by
    have hs := (size_bd hb hx.2 hy.2).2.2
    have hpl : (pls p x y).length = nyF p y * nxF p x := plN_len _ _ _
    exact Nat.le_trans (List.length_filter_le _ _) (by omega)
  have harea := lay_area hb (show 0 < a by omega) (show 0 < d by omega) hadm hx hy hMin (fun u hu v hv => lay_same hg p x y hu hv) hnd hlen
  have hA1 : AreaF p = (areaC p, 0) := by rw [AreaF, if_pos (blankF_spec hb).1]
  have hage := area_ge hb
  have hage2 := Int.mul_le_mul_of_nonneg_left hage (show (0 : Int) ≤ (LayL p (a, b, d) x y).length by omega)
  have hxy : x * y ≤ 100 * 100 := Int.mul_le_mul hx.2 hy.2 (by omega) (by omega)
  have hxy0 : 0 ≤ x * y := Int.mul_nonneg (by omega) (by omega)
  have hq2 : 2 * x * y = 2 * (x * y) := Int.mul_assoc _ _ _
  have hin := fun {u v : Pt} (hu : u ∈ LayL p (a, b, d) x y) (hv : v ∈ LayL p (a, b, d) x y) => lay_in hg p x y hu hv
  have hfree := fun {u v : Pt} (hu : u ∈ LayL p (a, b, d) x y) (hv : v ∈ LayL p (a, b, d) x y) (hne : u ≠ v) => lay_free hg hb hadm x y hu hv hne
  have t1 := tmod_bds o.1 (show (0 : Int) < 1000 by decide)
  have t2 := tmod_bds o.2 (show (0 : Int) < 1000 by decide)
  generalize hM : LayL p (a, b, d) x y = M at *
  refine Ct.of_body (rs := [.tmp 12]) (N := 268) (L := []) Try.func12 rfl rfl rfl (by kernel_rfl) rfl (Mem.refl w) ?_
  refine HW.seq (HW.region [(0, .ef), (1, .ef), (2, .st)] rfl rfl ?_)
  refine Plan.boxA rfl rfl rfl fun b7 => ?_
  refine Plan.boxA rfl rfl rfl fun b10 => ?_
  refine Plan.assign (v := .bool _) rfl rfl rfl ?_
  refine Plan.done ?_
  refine HW.seq ?_
  refine HW.seq (HW.region [(0, .st), (1, .ef), (2, .st)] rfl rfl ?_)
  refine Plan.move (v := .slice _ _ _) rfl rfl rfl ?_
  refine Plan.callF [] 0 rfl rfl rfl (.inl rfl) (by simp) (fun w hm => few_ct A p _ c w rfl) ?_
  rintro v Ln ⟨rfl, rfl⟩
  refine Plan.splitB (fun h25 => ?_) (fun h25 => ?_)
  · skip
    refine Plan.not rfl rfl rfl ?_
    refine Plan.done ?_
    refine HW.cond_false rfl ?_
    refine HW.skip ?_
    refine HW.seq (HW.region [(0, .st), (1, .st), (2, .st), (3, .st), (4, .ef), (5, .st), (6, .st), (7, .st), (8, .st), (9, .st)] rfl rfl ?_)
    refine Plan.move (v := .slice _ _ _) rfl rfl rfl ?_
    refine Plan.loadAll 1 rfl rfl aggGrid sizGrid rfl rfl rfl ?_
    refine Plan.move (v := .int _ _) rfl rfl rfl ?_
    refine Plan.move (v := .int _ _) rfl rfl rfl ?_
    refine Plan.callF [] 0 rfl rfl rfl (.inl rfl) (by simp) (fun w hm => (show Ct P _ _ _ _ (fun r L => ∃ o' c', r = .tuple #[slv o' M.length c', int 0] ∧ L = [ownV o' c' M]) from (by have h5 := LayB_ct A p p.length c a b d x y w (hp.mem hm) rfl (by omega); rw [hF] at h5; exact h5))) ?_
    rintro v Ln ⟨o1, c1, rfl, rfl⟩
    refine Plan.move (v := .tuple _) rfl rfl rfl ?_
    refine Plan.extract (v := .slice _ _ _) rfl rfl rfl rfl ?_
    refine Plan.extract (v := .int _ _) rfl rfl rfl rfl ?_
    refine Plan.assign (v := .slice _ _ _) rfl rfl rfl ?_
    refine Plan.assign (v := .int _ _) rfl rfl rfl ?_
    refine Plan.done ?_
    refine HW.seq ?_
    refine HW.seq (HW.region [(0, .st), (1, .st)] rfl rfl ?_)
    refine Plan.move (v := .int _ _) rfl rfl rfl ?_
    refine Plan.cmp2 rfl rfl rfl rfl rfl (fun h37 => ?_) (fun h37 => ?_)
    · replace h37 := ne_of_t h37
      exact absurd rfl h37
    · replace h37 := eq_of_f h37
      refine Plan.done ?_
      refine HW.cond_false rfl ?_
      refine HW.skip ?_
      refine HW.seq (HW.region [(0, .st), (1, .ef), (2, .st), (3, .st), (4, .st), (5, .st), (6, .st)] rfl rfl ?_)
      refine Plan.move (v := .slice _ _ _) rfl rfl rfl ?_
      refine Plan.callF [] 0 rfl rfl rfl (.inl rfl) (by simp) (fun w hm => (show Ct P _ _ _ _ (fun r L => r = .tuple #[int (areaC p), int 0] ∧ L = []) from (by have h5 := Area_ct A p p.length c w (hp.mem hm) rfl (by omega); rw [hA1] at h5; exact h5))) ?_
      rintro v Ln ⟨rfl, rfl⟩
      refine Plan.move (v := .tuple _) rfl rfl rfl ?_
      refine Plan.extract (v := .int _ _) rfl rfl rfl rfl ?_
      refine Plan.extract (v := .int _ _) rfl rfl rfl rfl ?_
      refine Plan.assign (v := .int _ _) rfl rfl rfl ?_
      refine Plan.assign (v := .int _ _) rfl rfl rfl ?_
      refine Plan.done ?_
      refine HW.seq ?_
      refine HW.seq (HW.region [(0, .st), (1, .st), (2, .st), (3, .st), (4, .st), (5, .st), (6, .st), (7, .st), (8, .st), (9, .st), (10, .st), (11, .st), (12, .st)] rfl rfl ?_)
      refine Plan.move (v := .int _ _) rfl rfl rfl ?_
      refine Plan.cmp2 rfl rfl rfl rfl rfl (fun h54 => ?_) (fun h54 => ?_)
      · replace h54 := ne_of_t h54
        exact absurd rfl h54
      · replace h54 := eq_of_f h54
        refine Plan.move (v := .bool _) rfl rfl rfl ?_
        refine Plan.move (v := .slice _ _ _) rfl rfl rfl ?_
        refine Plan.len rfl rfl slV rfl ?_
        refine Plan.move (v := .int _ _) rfl rfl rfl ?_
        refine Plan.arithI rfl rfl rfl rfl rfl (by omega) ?_
        refine Plan.move (v := .int _ _) rfl rfl rfl ?_
        refine Plan.arithI rfl rfl rfl rfl rfl (by omega) ?_
        refine Plan.move (v := .int _ _) rfl rfl rfl ?_
        refine Plan.arithI rfl rfl rfl rfl rfl (by omega) ?_
        refine Plan.cmp2 rfl rfl rfl rfl rfl (fun h64 => ?_) (fun h64 => ?_)
        · replace h64 := of_decide_eq_true h64
          omega
        · replace h64 := of_decide_eq_false h64
          refine Plan.pick (v := .bool _) rfl rfl rfl rfl ?_
          refine Plan.done ?_
          refine HW.cond_false rfl ?_
          refine HW.skip ?_
          refine HW.seq ?_
          refine HW.pure (p := 0 < M.length → ∃ bb, o1 = some bb) (fun w' hm hpos => Res.own_some (hm.res (ownV o1 c1 M) (by simp)) hpos) fun hob => ?_
          refine HW.seq (HW.region [(0, .st)] rfl rfl ?_)
          refine Plan.assign (v := .int _ _) rfl rfl rfl ?_
          refine Plan.done ?_
          refine HW.block ?_
          refine HW.loopL (G := Nat) [12, 17, 18, 19, 20, 21, 22, 66, 67, 68, 69, 70, 71, 72, 73, 74, 75, 76, 77, 78, 79, 80, 81, 82, 83, 84, 85, 86, 87, 88, 89, 90, 91, 92, 93, 94, 95, 96, 97, 98, 99, 100, 101, 102, 103, 104, 105, 106, 107, 108, 109, 110, 111, 112, 113, 114, 115, 116, 117, 118, 119, 120, 121, 122, 123, 124, 125, 126, 127, 128, 129, 130, 131, 132, 133, 134, 135, 136, 137, 138, 139, 140, 141, 142, 143, 144, 145, 146, 147, 148, 149, 150, 151, 152, 153, 154, 155, 156, 157, 158, 159, 160, 161, 162, 163, 164, 165, 166, 167, 168, 169, 170, 171, 172, 173, 174, 175, 176, 177, 178, 179, 180, 181, 182, 183, 184, 185, 186, 187, 188, 189, 190, 191, 192, 193, 194, 195, 196, 197, 198, 199, 200, 201, 202, 203, 204, 205, 206, 207, 208, 209, 210, 211, 212, 213, 214, 215, 216, 217, 218] (fun g => [(17, int ((g : Nat) : Int))]) (fun g => [ownV o1 c1 M, Res.blk b10 #[int o.1, int o.2] 52, Res.blk b7 #[int a, int b, int d] 26]) (fun g => g ≤ M.length) (fun g => M.length - g) (0) ⟨rfl, trivial⟩ (fun w' hm => hm) (Nat.zero_le _) (fun g F hok => ?_)
          obtain ⟨i, hgi⟩ : ∃ i, i = g := ⟨g, rfl⟩
          subst hgi
          refine HW.seq ?_
          refine HW.seq (HW.region [(0, .st), (1, .st), (2, .st), (3, .st)] rfl rfl ?_)
          refine Plan.move (v := .int _ _) rfl rfl rfl ?_
          refine Plan.move (v := .slice _ _ _) rfl rfl rfl ?_
          refine Plan.len rfl rfl slV rfl ?_
          refine Plan.cmp2 rfl rfl rfl rfl rfl (fun h69 => ?_) (fun h69 => ?_)
          · replace h69 := of_decide_eq_true h69
            have hi : i < M.length := by omega
            have h0M : 0 < M.length := by omega
            obtain ⟨bb, rfl⟩ := hob h0M
            have hmi := List.getElem_mem hi
            have hm0 := List.getElem_mem h0M
            obtain ⟨⟨bi1, bi2⟩, bi3, bi4⟩ := hbd _ hmi
            obtain ⟨⟨bz1, bz2⟩, bz3, bz4⟩ := hbd _ hm0
            have hpi := pls_mem.1 (hMin _ hmi)
            have hG := hin hmi hm0
            refine Plan.done ?_
            refine HW.cond_true rfl ?_
            refine HW.skip ?_
            refine HW.seq ?_
            refine HW.block ?_
            refine HW.seq ?_
            refine HW.seq (HW.region [(0, .st)] rfl rfl ?_)
            refine Plan.assign (v := .int _ _) rfl rfl rfl ?_
            refine Plan.done ?_
            refine HW.block ?_
            refine HW.loopL (G := Nat) [12, 18, 19, 20, 72, 73, 74, 75, 76, 77, 78, 79, 80, 81, 82, 83, 84, 85, 86, 87, 88, 89, 90, 91, 92, 93, 94, 95, 96, 97, 98, 99, 100, 101, 102, 103, 104, 105, 106, 107, 108, 109, 110, 111, 112, 113, 114, 115] (fun g => [(18, int ((g : Nat) : Int))]) (fun g => [ownV (some bb) c1 M, Res.blk b10 #[int o.1, int o.2] 52, Res.blk b7 #[int a, int b, int d] 26]) (fun g => g ≤ p.length) (fun g => p.length - g) (0) ⟨rfl, trivial⟩ (fun w' hm => hm) (Nat.zero_le _) (fun g F hok => ?_)
            refine HW.seq ?_
            refine HW.seq (HW.region [(0, .st), (1, .st), (2, .st), (3, .st)] rfl rfl ?_)
            refine Plan.move (v := .int _ _) rfl rfl rfl ?_
            refine Plan.move (v := .slice _ _ _) rfl rfl rfl ?_
            refine Plan.len rfl rfl slV rfl ?_
            refine Plan.cmp2 rfl rfl rfl rfl rfl (fun h75 => ?_) (fun h75 => ?_)
            · replace h75 := of_decide_eq_true h75
              have hlt : g < p.length := by omega
              obtain ⟨ad, ea, hl1⟩ := hp g hlt
              have hbx := box_in (List.getElem_mem hlt)
              have hbk := blank_bd hb (List.getElem_mem hlt)
              refine Plan.done ?_
              refine HW.cond_true rfl ?_
              refine HW.skip ?_
              refine HW.seq ?_
              refine HW.block ?_
              refine HW.seq (HW.region_any [] [(0, .st), (1, .st), (2, .st), (3, .st), (4, .st), (5, .st), (6, .st), (7, .st), (8, .st), (9, .st), (10, .st), (11, .st), (12, .st), (13, .st), (14, .st), (15, .st), (16, .st), (17, .st), (18, .st), (19, .st), (20, .st), (21, .st), (22, .st), (23, .st)] mix (by kernel_rfl) (fun _ _ _ _ _ h => h) (zeros rfl) ?_)
              refine Plan.move (v := .slice _ _ _) rfl rfl rfl ?_
              refine Plan.move (v := .int _ _) rfl rfl rfl ?_
              refine Plan.indexN (g) rfl rfl slV sizV rfl ea rfl rfl (hlt) ?_
              refine Plan.fieldAddr rfl rfl fldV0 rfl ?_
              refine Plan.load (v := .int _ _) rfl rfl aggI rfl (Sees.nth (Sees.old hl1 (by simp)) 0 rfl) ?_
              refine Plan.move (v := .slice _ _ _) rfl rfl rfl ?_
              refine Plan.move (v := .int _ _) rfl rfl rfl ?_
              refine Plan.indexN (i) rfl rfl slV sizV rfl rfl rfl rfl (hi) ?_
              refine Plan.fieldAddr rfl rfl fldV0 rfl ?_
              refine Plan.load (v := .int _ _) rfl rfl aggI rfl (Sees.nth (Sees.own 0 enc2 rfl bb rfl i hi) 0 rfl) ?_
              refine Plan.arithI rfl rfl rfl rfl rfl (by omega) ?_
              refine Plan.move (v := .slice _ _ _) rfl rfl rfl ?_
              refine Plan.move (v := .int _ _) rfl rfl rfl ?_
              refine Plan.indexN (g) rfl rfl slV sizV rfl ea rfl rfl (hlt) ?_
              refine Plan.fieldAddr rfl rfl fldV1 rfl ?_
              refine Plan.load (v := .int _ _) rfl rfl aggI rfl (Sees.nth (Sees.old hl1 (by simp)) 1 rfl) ?_
              refine Plan.move (v := .slice _ _ _) rfl rfl rfl ?_
              refine Plan.move (v := .int _ _) rfl rfl rfl ?_
              refine Plan.indexN (i) rfl rfl slV sizV rfl rfl rfl rfl (hi) ?_
              refine Plan.fieldAddr rfl rfl fldV1 rfl ?_
              refine Plan.load (v := .int _ _) rfl rfl aggI rfl (Sees.nth (Sees.own 0 enc2 rfl bb rfl i hi) 1 rfl) ?_
              refine Plan.arithI rfl rfl rfl rfl rfl (by omega) ?_
              refine Plan.assign (v := .int _ _) rfl rfl rfl ?_
              refine Plan.assign (v := .int _ _) rfl rfl rfl ?_
              refine Plan.done ?_
              refine HW.seq (HW.region [(0, .st), (1, .st), (2, .st), (3, .st), (4, .st), (5, .st), (6, .st), (7, .st), (8, .st), (9, .st), (10, .st), (11, .st), (12, .st), (13, .st), (14, .st), (15, .st)] rfl rfl ?_)
              refine Plan.move (v := .int _ _) rfl rfl rfl ?_
              refine Plan.cmp2 rfl rfl rfl rfl rfl (fun h101 => ?_) (fun h101 => ?_)
              · replace h101 := of_decide_eq_true h101
                omega
              · replace h101 := of_decide_eq_false h101
                refine Plan.move (v := .bool _) rfl rfl rfl ?_
                refine Plan.move (v := .int _ _) rfl rfl rfl ?_
                refine Plan.move (v := .int _ _) rfl rfl rfl ?_
                refine Plan.cmp2 rfl rfl rfl rfl rfl (fun h105 => ?_) (fun h105 => ?_)
                · replace h105 := of_decide_eq_true h105
                  omega
                · replace h105 := of_decide_eq_false h105
                  refine Plan.pick (v := .bool _) rfl rfl rfl rfl ?_
                  refine Plan.move (v := .bool _) rfl rfl rfl ?_
                  refine Plan.move (v := .int _ _) rfl rfl rfl ?_
                  refine Plan.cmp2 rfl rfl rfl rfl rfl (fun h109 => ?_) (fun h109 => ?_)
                  · replace h109 := of_decide_eq_true h109
                    omega
                  · replace h109 := of_decide_eq_false h109
                    refine Plan.pick (v := .bool _) rfl rfl rfl rfl ?_
                    refine Plan.move (v := .bool _) rfl rfl rfl ?_
                    refine Plan.move (v := .int _ _) rfl rfl rfl ?_
                    refine Plan.move (v := .int _ _) rfl rfl rfl ?_
                    refine Plan.cmp2 rfl rfl rfl rfl rfl (fun h114 => ?_) (fun h114 => ?_)
                    · replace h114 := of_decide_eq_true h114
                      omega
                    · replace h114 := of_decide_eq_false h114
                      refine Plan.pick (v := .bool _) rfl rfl rfl rfl ?_
                      refine Plan.done ?_
                      refine HW.cond_false rfl ?_
                      refine HW.skip ?_
                      refine HW.region [(0, .st), (1, .st), (2, .st)] rfl rfl ?_
                      refine Plan.move (v := .int _ _) rfl rfl rfl ?_
                      refine Plan.arithI rfl rfl rfl rfl rfl (by omega) ?_
                      refine Plan.assign (v := .int _ _) rfl rfl rfl ?_
                      refine Plan.done ?_
                      exact ⟨g + 1, by simp only; omega, hlt, rfl, Ent.sub (.refl _), (by repeat (first | exact Agree.havoc _ _ _ | refine Agree.updN ?_ | refine Agree.upd rfl ?_ | refine Agree.updL rfl ?_ | refine Agree.havoc2 rfl ?_)), ⟨int_eq (by push_cast; omega), trivial⟩⟩
            · replace h75 := of_decide_eq_false h75
              refine Plan.done ?_
              refine HW.cond_false rfl ?_
              refine HW.exit ?_
              refine HW.mid (G := Unit) [12, 116, 117, 118, 119, 120, 121, 122, 123, 124, 125, 126, 127, 128, 129, 130, 131, 132, 133, 134, 135, 136, 137, 138, 139, 140, 141, 142, 143, 144, 145, 146, 147, 148, 149, 150, 151, 152, 153, 154, 155, 156, 157, 158, 159] (fun g => []) (fun g => [ownV (some bb) c1 M, Res.blk b10 #[int o.1, int o.2] 52, Res.blk b7 #[int a, int b, int d] 26]) (fun g => True) ?_ (fun g F hmid => ?_)
              · skip
                refine HW.seq (HW.region_any [] [(0, .st), (1, .st), (2, .st), (3, .st), (4, .st), (5, .st), (6, .st), (7, .st), (8, .st), (9, .st), (10, .st), (11, .st), (12, .st), (13, .st), (14, .st), (15, .st), (16, .st), (17, .st), (18, .st), (19, .st), (20, .st), (21, .st), (22, .st), (23, .st), (24, .st), (25, .st), (26, .st), (27, .st), (28, .st), (29, .st), (30, .st), (31, .st), (32, .st), (33, .st), (34, .st), (35, .st), (36, .st), (37, .st), (38, .st), (39, .st), (40, .st), (41, .st), (42, .st), (43, .st)] mix (by kernel_rfl) (fun _ _ _ _ _ h => h) (zeros rfl) ?_)
                refine Plan.move (v := .int _ _) rfl rfl rfl ?_
                refine Plan.cmp2 rfl rfl rfl rfl rfl (fun h117 => ?_) (fun h117 => ?_)
                · replace h117 := of_decide_eq_true h117
                  have hi1 : i - 1 < M.length := by omega
                  have hbel := List.pairwise_iff_getElem.1 hsort (i - 1) i hi1 hi (by omega)
                  unfold below at hbel
                  refine Plan.move (v := .bool _) rfl rfl rfl ?_
                  refine Plan.move (v := .slice _ _ _) rfl rfl rfl ?_
                  refine Plan.move (v := .int _ _) rfl rfl rfl ?_
                  refine Plan.indexN (i) rfl rfl slV sizV rfl rfl rfl rfl (hi) ?_
                  refine Plan.fieldAddr rfl rfl fldV1 rfl ?_
                  refine Plan.load (v := .int _ _) rfl rfl aggI rfl (Sees.nth (Sees.own 0 enc2 rfl bb rfl i hi) 1 rfl) ?_
                  refine Plan.move (v := .slice _ _ _) rfl rfl rfl ?_
                  refine Plan.move (v := .int _ _) rfl rfl rfl ?_
                  refine Plan.arithI rfl rfl rfl rfl rfl (by omega) ?_
                  refine Plan.indexN ((i - 1)) rfl rfl slV sizV rfl rfl rfl (by omega) (hi1) ?_
                  refine Plan.fieldAddr rfl rfl fldV1 rfl ?_
                  refine Plan.load (v := .int _ _) rfl rfl aggI rfl (Sees.nth (Sees.own 0 enc2 rfl bb rfl (i - 1) hi1) 1 rfl) ?_
                  refine Plan.cmp2 rfl rfl rfl rfl rfl (fun h130 => ?_) (fun h130 => ?_)
                  · replace h130 := of_decide_eq_true h130
                    omega
                  · replace h130 := of_decide_eq_false h130
                    refine Plan.move (v := .bool _) rfl rfl rfl ?_
                    refine Plan.move (v := .slice _ _ _) rfl rfl rfl ?_
                    refine Plan.move (v := .int _ _) rfl rfl rfl ?_
                    refine Plan.indexN (i) rfl rfl slV sizV rfl rfl rfl rfl (hi) ?_
                    refine Plan.fieldAddr rfl rfl fldV1 rfl ?_
                    refine Plan.load (v := .int _ _) rfl rfl aggI rfl (Sees.nth (Sees.own 0 enc2 rfl bb rfl i hi) 1 rfl) ?_
                    refine Plan.move (v := .slice _ _ _) rfl rfl rfl ?_
                    refine Plan.move (v := .int _ _) rfl rfl rfl ?_
                    refine Plan.arithI rfl rfl rfl rfl rfl (by omega) ?_
                    refine Plan.indexN ((i - 1)) rfl rfl slV sizV rfl rfl rfl (by omega) (hi1) ?_
                    refine Plan.fieldAddr rfl rfl fldV1 rfl ?_
                    refine Plan.load (v := .int _ _) rfl rfl aggI rfl (Sees.nth (Sees.own 0 enc2 rfl bb rfl (i - 1) hi1) 1 rfl) ?_
                    refine Plan.cmp2 rfl rfl rfl rfl rfl (fun h143 => ?_) (fun h143 => ?_)
                    · replace h143 := of_decide_eq_true h143
                      refine Plan.move (v := .bool _) rfl rfl rfl ?_
                      refine Plan.move (v := .slice _ _ _) rfl rfl rfl ?_
                      refine Plan.move (v := .int _ _) rfl rfl rfl ?_
                      refine Plan.indexN (i) rfl rfl slV sizV rfl rfl rfl rfl (hi) ?_
                      refine Plan.fieldAddr rfl rfl fldV0 rfl ?_
                      refine Plan.load (v := .int _ _) rfl rfl aggI rfl (Sees.nth (Sees.own 0 enc2 rfl bb rfl i hi) 0 rfl) ?_
                      refine Plan.move (v := .slice _ _ _) rfl rfl rfl ?_
                      refine Plan.move (v := .int _ _) rfl rfl rfl ?_
                      refine Plan.arithI rfl rfl rfl rfl rfl (by omega) ?_
                      refine Plan.indexN ((i - 1)) rfl rfl slV sizV rfl rfl rfl (by omega) (hi1) ?_
                      refine Plan.fieldAddr rfl rfl fldV0 rfl ?_
                      refine Plan.load (v := .int _ _) rfl rfl aggI rfl (Sees.nth (Sees.own 0 enc2 rfl bb rfl (i - 1) hi1) 0 rfl) ?_
                      refine Plan.cmp2 rfl rfl rfl rfl rfl (fun h156 => ?_) (fun h156 => ?_)
                      · replace h156 := of_decide_eq_true h156
                        omega
                      · replace h156 := of_decide_eq_false h156
                        refine Plan.pick (v := .bool _) rfl rfl rfl rfl ?_
                        refine Plan.pick (v := .bool _) rfl rfl rfl rfl ?_
                        refine Plan.pick (v := .bool _) rfl rfl rfl rfl ?_
                        refine Plan.done ?_
                        refine HW.cond_false rfl ?_
                        refine HW.skip ?_
                        exact ⟨(), trivial, rfl, Ent.refl _ _, (by repeat (first | exact Agree.refl _ _ | exact Agree.havoc _ _ _ | refine Agree.updN ?_ | refine Agree.upd rfl ?_ | refine Agree.updL rfl ?_ | refine Agree.havoc2 rfl ?_)), trivial⟩
                    · replace h143 := of_decide_eq_false h143
                      refine Plan.move (v := .bool _) rfl rfl rfl ?_
                      refine Plan.no rfl rfl ?_
                      refine Plan.no rfl rfl ?_
                      refine Plan.no rfl rfl ?_
                      refine Plan.no rfl rfl ?_
                      refine Plan.no rfl rfl ?_
                      refine Plan.no rfl rfl ?_
                      refine Plan.no rfl rfl ?_
                      refine Plan.no rfl rfl ?_
                      refine Plan.no rfl rfl ?_
                      refine Plan.no rfl rfl ?_
                      refine Plan.no rfl rfl ?_
                      refine Plan.no rfl rfl ?_
                      refine Plan.pick (v := .bool _) rfl rfl rfl rfl ?_
                      refine Plan.pick (v := .bool _) rfl rfl rfl rfl ?_
                      refine Plan.pick (v := .bool _) rfl rfl rfl rfl ?_
                      refine Plan.done ?_
                      refine HW.cond_false rfl ?_
                      refine HW.skip ?_
                      exact ⟨(), trivial, rfl, Ent.refl _ _, (by repeat (first | exact Agree.refl _ _ | exact Agree.havoc _ _ _ | refine Agree.updN ?_ | refine Agree.upd rfl ?_ | refine Agree.updL rfl ?_ | refine Agree.havoc2 rfl ?_)), trivial⟩
                · replace h117 := of_decide_eq_false h117
                  refine Plan.move (v := .bool _) rfl rfl rfl ?_
                  refine Plan.no rfl rfl ?_
                  refine Plan.no rfl rfl ?_
                  refine Plan.no rfl rfl ?_
                  refine Plan.no rfl rfl ?_
                  refine Plan.no rfl rfl ?_
                  refine Plan.no rfl rfl ?_
                  refine Plan.no rfl rfl ?_
                  refine Plan.no rfl rfl ?_
                  refine Plan.no rfl rfl ?_
                  refine Plan.no rfl rfl ?_
                  refine Plan.no rfl rfl ?_
                  refine Plan.no rfl rfl ?_
                  refine Plan.no rfl rfl ?_
                  refine Plan.no rfl rfl ?_
                  refine Plan.no rfl rfl ?_
                  refine Plan.no rfl rfl ?_
                  refine Plan.no rfl rfl ?_
                  refine Plan.no rfl rfl ?_
                  refine Plan.no rfl rfl ?_
                  refine Plan.no rfl rfl ?_
                  refine Plan.no rfl rfl ?_
                  refine Plan.no rfl rfl ?_
                  refine Plan.no rfl rfl ?_
                  refine Plan.no rfl rfl ?_
                  refine Plan.no rfl rfl ?_
                  refine Plan.no rfl rfl ?_
                  refine Plan.no rfl rfl ?_
                  refine Plan.no rfl rfl ?_
                  refine Plan.no rfl rfl ?_
                  refine Plan.no rfl rfl ?_
                  refine Plan.no rfl rfl ?_
                  refine Plan.no rfl rfl ?_
                  refine Plan.no rfl rfl ?_
                  refine Plan.no rfl rfl ?_
                  refine Plan.no rfl rfl ?_
                  refine Plan.no rfl rfl ?_
                  refine Plan.no rfl rfl ?_
                  refine Plan.no rfl rfl ?_
                  refine Plan.no rfl rfl ?_
                  refine Plan.no rfl rfl ?_
                  refine Plan.pick (v := .bool _) rfl rfl rfl rfl ?_
                  refine Plan.done ?_
                  refine HW.cond_false rfl ?_
                  refine HW.skip ?_
                  exact ⟨(), trivial, rfl, Ent.refl _ _, (by repeat (first | exact Agree.refl _ _ | exact Agree.havoc _ _ _ | refine Agree.updN ?_ | refine Agree.upd rfl ?_ | refine Agree.updL rfl ?_ | refine Agree.havoc2 rfl ?_)), trivial⟩
              · skip
                refine HW.seq (HW.region_any [22] [(0, .st), (1, .st), (2, .st), (3, .st), (4, .st), (5, .st), (6, .st), (7, .st), (8, .st), (9, .st), (10, .st), (11, .st), (12, .st), (13, .st), (14, .st), (15, .st), (16, .st), (17, .st), (18, .st), (19, .st), (20, .st), (21, .al), (22, .ef)] mix (by kernel_rfl) (fun _ _ _ _ _ h => h) (zeros rfl) ?_)
                refine Plan.move (v := .slice _ _ _) rfl rfl rfl ?_
                refine Plan.move (v := .int _ _) rfl rfl rfl ?_
                refine Plan.indexN (i) rfl rfl slV sizV rfl rfl rfl rfl (hi) ?_
                refine Plan.fieldAddr rfl rfl fldV0 rfl ?_
                refine Plan.load (v := .int _ _) rfl rfl aggI rfl (Sees.nth (Sees.own 0 enc2 rfl bb rfl i hi) 0 rfl) ?_
                refine Plan.move (v := .slice _ _ _) rfl rfl rfl ?_
                refine Plan.indexN (0) rfl rfl slV sizV rfl rfl rfl rfl (h0M) ?_
                refine Plan.fieldAddr rfl rfl fldV0 rfl ?_
                refine Plan.load (v := .int _ _) rfl rfl aggI rfl (Sees.nth (Sees.own 0 enc2 rfl bb rfl 0 h0M) 0 rfl) ?_
                refine Plan.arithI rfl rfl rfl rfl rfl (by omega) ?_
                refine Plan.move (v := .slice _ _ _) rfl rfl rfl ?_
                refine Plan.move (v := .int _ _) rfl rfl rfl ?_
                refine Plan.indexN (i) rfl rfl slV sizV rfl rfl rfl rfl (hi) ?_
                refine Plan.fieldAddr rfl rfl fldV1 rfl ?_
                refine Plan.load (v := .int _ _) rfl rfl aggI rfl (Sees.nth (Sees.own 0 enc2 rfl bb rfl i hi) 1 rfl) ?_
                refine Plan.move (v := .slice _ _ _) rfl rfl rfl ?_
                refine Plan.indexN (0) rfl rfl slV sizV rfl rfl rfl rfl (h0M) ?_
                refine Plan.fieldAddr rfl rfl fldV1 rfl ?_
                refine Plan.load (v := .int _ _) rfl rfl aggI rfl (Sees.nth (Sees.own 0 enc2 rfl bb rfl 0 h0M) 1 rfl) ?_
                refine Plan.arithI rfl rfl rfl rfl rfl (by omega) ?_
                refine Plan.build rfl rfl rfl (bldV _ _) ?_
                refine Plan.alloc rfl zerV fun b21 => ?_
                refine Plan.storeA 0 rfl rfl (hDs (by decide)) sizV rfl rfl rfl rfl rfl rfl ?_
                refine Plan.done ?_
                refine HW.seq ?_
                refine HW.seq (HW.region [(0, .st), (1, .st), (2, .ef), (3, .st)] rfl rfl ?_)
                refine Plan.loadAll 3 rfl rfl aggGrid sizGrid rfl rfl rfl ?_
                refine Plan.loadAll 0 rfl rfl aggV sizV rfl rfl rfl ?_
                refine Plan.callF [] 0 rfl rfl rfl (.inl rfl) (by simp) (fun w hm => inR_ct a b d _ _ w hg ⟨by omega, by omega⟩ ⟨by omega, by omega⟩) ?_
                rintro v Ln ⟨rfl, rfl⟩
                refine Plan.splitB (fun h183 => ?_) (fun h183 => ?_)
                · skip
                  refine Plan.not rfl rfl rfl ?_
                  refine Plan.done ?_
                  refine HW.cond_false rfl ?_
                  refine HW.skip ?_
                  refine HW.seq (HW.region [(0, .st)] rfl rfl ?_)
                  refine Plan.assign (v := .int _ _) rfl rfl rfl ?_
                  refine Plan.done ?_
                  refine HW.block ?_
                  refine HW.loopL (G := Nat) [12, 22, 185, 186, 187, 188, 189, 190, 191, 192, 193, 194, 195, 196, 197, 198, 199, 200, 201, 202, 203, 204, 205, 206, 207, 208, 209, 210, 211, 212, 213, 214, 215, 216, 217, 218] (fun g => [(22, int ((g : Nat) : Int))]) (fun g => [Res.blk b21 #[int (M[i].1 - M[0].1), int (M[i].2 - M[0].2)] 52, ownV (some bb) c1 M, Res.blk b10 #[int o.1, int o.2] 52, Res.blk b7 #[int a, int b, int d] 26]) (fun g => g ≤ i) (fun g => i - g) (0) ⟨rfl, trivial⟩ (fun w' hm => hm) (Nat.zero_le _) (fun g F hok => ?_)
                  refine HW.seq ?_
                  refine HW.seq (HW.region [(0, .st), (1, .st), (2, .st), (3, .st), (4, .st), (5, .st), (6, .st)] rfl rfl ?_)
                  refine Plan.move (v := .int _ _) rfl rfl rfl ?_
                  refine Plan.move (v := .int _ _) rfl rfl rfl ?_
                  refine Plan.cmp2 rfl rfl rfl rfl rfl (fun h187 => ?_) (fun h187 => ?_)
                  · replace h187 := of_decide_eq_true h187
                    have hki : g < i := by omega
                    have hkM : g < M.length := by omega
                    have hmk := List.getElem_mem hkM
                    obtain ⟨⟨bk1, bk2⟩, bk3, bk4⟩ := hbd _ hmk
                    have hne : M[i] ≠ M[g] := fun e => by
                      have := nodup_inj hnd e
                      omega
                    have hfr := hfree hmi hmk hne
                    refine Plan.move (v := .bool _) rfl rfl rfl ?_
                    refine Plan.move (v := .int _ _) rfl rfl rfl ?_
                    refine Plan.cmp2 rfl rfl rfl rfl rfl (fun h190 => ?_) (fun h190 => ?_)
                    · replace h190 := of_decide_eq_true h190
                      refine Plan.pick (v := .bool _) rfl rfl rfl rfl ?_
                      refine Plan.done ?_
                      refine HW.cond_true rfl ?_
                      refine HW.skip ?_
                      refine HW.seq ?_
                      refine HW.block ?_
                      refine HW.seq (HW.region_any [] [(0, .st), (1, .st), (2, .st), (3, .st), (4, .st), (5, .st), (6, .st), (7, .st), (8, .st), (9, .st), (10, .st), (11, .st), (12, .st), (13, .st), (14, .st), (15, .st), (16, .st), (17, .st), (18, .st), (19, .st), (20, .st), (21, .st), (22, .st), (23, .st), (24, .ef)] mix (by kernel_rfl) (fun _ _ _ _ _ h => h) (zeros rfl) ?_)
                      refine Plan.move (v := .slice _ _ _) rfl rfl rfl ?_
                      refine Plan.move (v := .slice _ _ _) rfl rfl rfl ?_
                      refine Plan.move (v := .int _ _) rfl rfl rfl ?_
                      refine Plan.indexN (i) rfl rfl slV sizV rfl rfl rfl rfl (hi) ?_
                      refine Plan.fieldAddr rfl rfl fldV0 rfl ?_
                      refine Plan.load (v := .int _ _) rfl rfl aggI rfl (Sees.nth (Sees.own 1 enc2 rfl bb rfl i hi) 0 rfl) ?_
                      refine Plan.move (v := .slice _ _ _) rfl rfl rfl ?_
                      refine Plan.move (v := .int _ _) rfl rfl rfl ?_
                      refine Plan.indexN (g) rfl rfl slV sizV rfl rfl rfl rfl (hkM) ?_
                      refine Plan.fieldAddr rfl rfl fldV0 rfl ?_
                      refine Plan.load (v := .int _ _) rfl rfl aggI rfl (Sees.nth (Sees.own 1 enc2 rfl bb rfl g hkM) 0 rfl) ?_
                      refine Plan.arithI rfl rfl rfl rfl rfl (by omega) ?_
                      refine Plan.move (v := .slice _ _ _) rfl rfl rfl ?_
                      refine Plan.move (v := .int _ _) rfl rfl rfl ?_
                      refine Plan.indexN (i) rfl rfl slV sizV rfl rfl rfl rfl (hi) ?_
                      refine Plan.fieldAddr rfl rfl fldV1 rfl ?_
                      refine Plan.load (v := .int _ _) rfl rfl aggI rfl (Sees.nth (Sees.own 1 enc2 rfl bb rfl i hi) 1 rfl) ?_
                      refine Plan.move (v := .slice _ _ _) rfl rfl rfl ?_
                      refine Plan.move (v := .int _ _) rfl rfl rfl ?_
                      refine Plan.indexN (g) rfl rfl slV sizV rfl rfl rfl rfl (hkM) ?_
                      refine Plan.fieldAddr rfl rfl fldV1 rfl ?_
                      refine Plan.load (v := .int _ _) rfl rfl aggI rfl (Sees.nth (Sees.own 1 enc2 rfl bb rfl g hkM) 1 rfl) ?_
                      refine Plan.arithI rfl rfl rfl rfl rfl (by omega) ?_
                      refine Plan.build rfl rfl rfl (bldV _ _) ?_
                      refine Plan.callF [] 0 rfl rfl rfl (.inl rfl) (by simp) (fun w hm => collide_ct A p (_, _) _ c w (hp.mem hm) rfl hb) ?_
                      rintro v Ln ⟨rfl, rfl⟩
                      refine Plan.splitB (fun h218 => ?_) (fun h218 => ?_)
                      · skip
                        exact absurd h218 (by rw [hfr]; decide)
                      · skip
                        refine Plan.done ?_
                        refine HW.cond_false rfl ?_
                        refine HW.skip ?_
                        refine HW.region [(0, .st), (1, .st), (2, .st)] rfl rfl ?_
                        refine Plan.move (v := .int _ _) rfl rfl rfl ?_
                        refine Plan.arithI rfl rfl rfl rfl rfl (by omega) ?_
                        refine Plan.assign (v := .int _ _) rfl rfl rfl ?_
                        refine Plan.done ?_
                        exact ⟨g + 1, by simp only; omega, hki, rfl, Ent.sub (.refl _), (by repeat (first | exact Agree.havoc _ _ _ | refine Agree.updN ?_ | refine Agree.upd rfl ?_ | refine Agree.updL rfl ?_ | refine Agree.havoc2 rfl ?_)), ⟨int_eq (by push_cast; omega), trivial⟩⟩
                    · replace h190 := of_decide_eq_false h190
                      refine Plan.pick (v := .bool _) rfl rfl rfl rfl ?_
                      refine Plan.done ?_
                      refine HW.cond_false rfl ?_
                      refine HW.exit ?_
                      refine HW.region [(0, .st), (1, .st), (2, .st)] rfl rfl ?_
                      refine Plan.move (v := .int _ _) rfl rfl rfl ?_
                      refine Plan.arithI rfl rfl rfl rfl rfl (by omega) ?_
                      refine Plan.assign (v := .int _ _) rfl rfl rfl ?_
                      refine Plan.done ?_
                      exact ⟨i + 1, by simp only; omega, hi, rfl, Ent.sub (.cons _ (.refl _)), (by repeat (first | exact Agree.havoc _ _ _ | refine Agree.updN ?_ | refine Agree.upd rfl ?_ | refine Agree.updL rfl ?_ | refine Agree.havoc2 rfl ?_)), ⟨int_eq (by push_cast; omega), trivial⟩⟩
                  · replace h187 := of_decide_eq_false h187
                    refine Plan.move (v := .bool _) rfl rfl rfl ?_
                    refine Plan.no rfl rfl ?_
                    refine Plan.no rfl rfl ?_
                    refine Plan.pick (v := .bool _) rfl rfl rfl rfl ?_
                    refine Plan.done ?_
                    refine HW.cond_false rfl ?_
                    refine HW.exit ?_
                    refine HW.region [(0, .st), (1, .st), (2, .st)] rfl rfl ?_
                    refine Plan.move (v := .int _ _) rfl rfl rfl ?_
                    refine Plan.arithI rfl rfl rfl rfl rfl (by omega) ?_
                    refine Plan.assign (v := .int _ _) rfl rfl rfl ?_
                    refine Plan.done ?_
                    exact ⟨i + 1, by simp only; omega, hi, rfl, Ent.sub (.cons _ (.refl _)), (by repeat (first | exact Agree.havoc _ _ _ | refine Agree.updN ?_ | refine Agree.upd rfl ?_ | refine Agree.updL rfl ?_ | refine Agree.havoc2 rfl ?_)), ⟨int_eq (by push_cast; omega), trivial⟩⟩
                · skip
                  exact absurd hG (by rw [h183]; decide)
          · replace h69 := of_decide_eq_false h69
            refine Plan.done ?_
            refine HW.cond_false rfl ?_
            refine HW.exit ?_
            refine HW.seq ?_
            refine HW.seq (HW.region_any [] [(0, .st), (1, .st), (2, .st), (3, .st), (4, .st), (5, .st), (6, .st), (7, .st), (8, .st), (9, .st), (10, .st), (11, .st), (15, .st), (16, .st), (12, .ef), (13, .ef), (14, .st), (17, .st)] mix (by kernel_rfl) (fun _ _ _ _ _ h => h) (zeros rfl) ?_)
            refine Plan.move (v := .slice _ _ _) rfl rfl rfl ?_
            refine Plan.loadAll 2 rfl rfl aggGrid sizGrid rfl rfl rfl ?_
            refine Plan.move (v := .int _ _) rfl rfl rfl ?_
            refine Plan.move (v := .int _ _) rfl rfl rfl ?_
            refine Plan.loadAll 2 rfl rfl aggGrid sizGrid rfl rfl rfl ?_
            refine Plan.fieldAddr rfl rfl fldV0 rfl ?_
            refine Plan.load (v := .int _ _) rfl rfl aggI rfl (Sees.one 1 rfl rfl) ?_
            refine Plan.remT rfl rfl rfl rfl (by omega) ?_
            refine Plan.fieldAddr rfl rfl fldV1 rfl ?_
            refine Plan.load (v := .int _ _) rfl rfl aggI rfl (Sees.one 1 rfl rfl) ?_
            refine Plan.remT rfl rfl rfl rfl (by omega) ?_
            refine Plan.build rfl rfl rfl (bldV _ _) ?_
            refine Plan.move (v := .slice _ _ _) rfl rfl rfl ?_
            refine Plan.len rfl rfl slV rfl ?_
            refine Plan.callF [] 0 rfl rfl rfl (.inl rfl) (by simp) (fun w hm => OffsetR_ct a b d (o.1.tmod 1000) (o.2.tmod 1000) w hg ⟨by omega, by omega⟩ ⟨by omega, by omega⟩) ?_
            rintro v Ln ⟨rfl, rfl⟩
            refine Plan.callF [] 0 rfl rfl rfl (.inl rfl) (by simp) (fun w hm => Class_ct A p a b d x y (offF (a, b, d) (o.1.tmod 1000, o.2.tmod 1000)) _ c w (hp.mem hm) rfl hb hg hx hy) ?_
            rintro v Ln ⟨o2, c2, rfl, rfl⟩
            refine Plan.len rfl rfl slV rfl ?_
            refine Plan.cmp2 rfl rfl rfl rfl rfl (fun h236 => ?_) (fun h236 => ?_)
            · replace h236 := of_decide_eq_true h236
              omega
            · replace h236 := of_decide_eq_false h236
              refine Plan.done ?_
              refine HW.cond_false rfl ?_
              refine HW.skip ?_
              refine HW.seq (HW.region [(0, .st), (1, .st), (2, .st), (3, .st), (4, .st), (5, .st), (6, .st), (7, .st), (8, .st), (9, .st), (10, .st), (11, .st), (12, .st), (13, .st), (14, .st), (15, .ef), (16, .st), (17, .st), (18, .st), (19, .st), (20, .st)] rfl rfl ?_)
              refine Plan.move (v := .slice _ _ _) rfl rfl rfl ?_
              refine Plan.loadAll 3 rfl rfl aggGrid sizGrid rfl rfl rfl ?_
              refine Plan.move (v := .int _ _) rfl rfl rfl ?_
              refine Plan.move (v := .int _ _) rfl rfl rfl ?_
              refine Plan.remU rfl rfl rfl rfl (by omega) ?_
              refine Plan.convI rfl rfl ⟨_, unduint8⟩ undI rfl (by omega) ?_
              refine Plan.arithI rfl rfl rfl rfl rfl (by omega) ?_
              refine Plan.min rfl rfl rfl rfl ?_
              refine Plan.move (v := .int _ _) rfl rfl rfl ?_
              refine Plan.move (v := .int _ _) rfl rfl rfl ?_
              refine Plan.quoU rfl rfl rfl rfl (by omega) ?_
              refine Plan.remU rfl rfl rfl rfl (by omega) ?_
              refine Plan.convI rfl rfl ⟨_, unduint8⟩ undI rfl (by omega) ?_
              refine Plan.arithI rfl rfl rfl rfl rfl (by omega) ?_
              refine Plan.min rfl rfl rfl rfl ?_
              refine Plan.callF [] 0 rfl rfl rfl (.inl rfl) (by simp) (fun w hm => (show Ct P _ _ _ _ (fun r L => ∃ o' c', r = .tuple #[slv o' (LayL p (a, b, d) (minI (x + q % 8) 100) (minI (y + q / 8 % 8) 100)).length c', int 0] ∧ L = [ownV o' c' (LayL p (a, b, d) (minI (x + q % 8) 100) (minI (y + q / 8 % 8) 100))]) from (by have h5 := LayB_ct A p p.length c a b d (minI (x + q % 8) 100) (minI (y + q / 8 % 8) 100) w (hp.mem hm) rfl (by omega); rw [hF2] at h5; exact h5))) ?_
              rintro v Ln ⟨o3, c3, rfl, rfl⟩
              refine Plan.move (v := .tuple _) rfl rfl rfl ?_
              refine Plan.extract (v := .slice _ _ _) rfl rfl rfl rfl ?_
              refine Plan.extract (v := .int _ _) rfl rfl rfl rfl ?_
              refine Plan.assign (v := .slice _ _ _) rfl rfl rfl ?_
              refine Plan.assign (v := .int _ _) rfl rfl rfl ?_
              refine Plan.done ?_
              refine HW.seq (HW.region [(0, .st), (1, .st), (2, .st), (3, .st), (4, .st), (5, .st), (6, .st), (7, .st), (8, .st), (9, .st), (10, .ef), (11, .st), (12, .st)] rfl rfl ?_)
              refine Plan.move (v := .int _ _) rfl rfl rfl ?_
              refine Plan.cmp2 rfl rfl rfl rfl rfl (fun h257 => ?_) (fun h257 => ?_)
              · replace h257 := of_decide_eq_true h257
                refine Plan.move (v := .bool _) rfl rfl rfl ?_
                refine Plan.move (v := .slice _ _ _) rfl rfl rfl ?_
                refine Plan.len rfl rfl slV rfl ?_
                refine Plan.move (v := .slice _ _ _) rfl rfl rfl ?_
                refine Plan.len rfl rfl slV rfl ?_
                refine Plan.cmp2 rfl rfl rfl rfl rfl (fun h263 => ?_) (fun h263 => ?_)
                · replace h263 := of_decide_eq_true h263
                  refine Plan.pick (v := .bool _) rfl rfl rfl rfl ?_
                  refine Plan.move (v := .bool _) rfl rfl rfl ?_
                  refine Plan.callF [] 0 rfl rfl rfl (.inl rfl) (by simp) (fun w hm => alive_ct w) ?_
                  rintro v Ln ⟨rfl, rfl⟩
                  refine Plan.splitB (fun h266 => ?_) (fun h266 => ?_)
                  · skip
                    refine Plan.pick (v := .bool _) rfl rfl rfl rfl ?_
                    refine Plan.assign (v := .bool _) rfl rfl rfl ?_
                    refine Plan.done ?_
                    exact HW.ret ⟨rfl, _, [], .tmp rfl .nil, List.nil_sublist _, rfl, rfl⟩
                  · skip
                    exact absurd h266 (by decide)
                · replace h263 := of_decide_eq_false h263
                  omega
              · replace h257 := of_decide_eq_false h257
                exact absurd rfl h257
  · skip
    exact absurd h60 (of_decide_eq_false h25)

theorem blankLayout_ct (A : Option Addr) (p : List Pt) (a b d x y : Int) (o : Pt) (q : Int) (n c : Nat) (w : World) (hp : Rd enc 2 w A p) (hn : n = p.length) (q0 : 0 ≤ q) (q1 : q ≤ 255) :
    Ct P 12 #[.slice A n c, gdv a b d, int x, int y, vc o, .int .u8 q] w [] (fun r L => r = .bool true ∧ L = []) := by
  by_cases h60 : p.length ≤ 60
  · rcases Bool.eq_false_or_eq_true (LayB p (a, b, d) x y) with hL | hL
    · have hL2 := hL
      simp only [LayB, Bool.and_eq_true, decide_eq_true_eq] at hL2
      obtain ⟨⟨⟨hb, hg⟩, hadm⟩, h1, h2, h3, h4⟩ := hL2
      exact Layout_ok A p n c a b d x y o q w hp hn h60 hb hg hadm ⟨h1, h2⟩ ⟨h3, h4⟩ q0 q1
    · exact Layout_no A p n c a b d x y o q w hp hn h60 hL
  · exact Layout_far A p n c a b d x y o q w hn h60

end Go.Proofs.Ytjmklbkcpjmcaaa.V
