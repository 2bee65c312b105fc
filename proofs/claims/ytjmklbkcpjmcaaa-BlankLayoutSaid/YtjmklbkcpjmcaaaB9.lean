/-
  Package blank: Best.
-/
import Derived.Test.YtjmklbkcpjmcaaaB8
import Derived.Test.YtjmklbkcpjmcaaaVd
namespace Go.Proofs.Ytjmklbkcpjmcaaa.V
open Go Go.RowKit Go.Proofs.Ytjmklbkcpjmcaaa.H Go.Proofs.Ytjmklbkcpjmcaaa.LL
set_option linter.unusedVariables false
set_option linter.unusedSimpArgs false

theorem sheetF_ok {x y : Int} {l : List It} (h : sheetF x y l = 0) : 1 ≤ x ∧ x ≤ 100 ∧ 1 ≤ y ∧ y ≤ 100 ∧ l.length ≤ 10 ∧ l.any badI = false := by
  unfold sheetF at h
  split at h
  · simp at h
  · split at h
    · simp at h
    · split at h
      · simp at h
      · next h1 h2 h3 => exact ⟨by omega, by omega, by omega, by omega, by omega, by simpa using h3⟩

theorem Best_ok (A : Option Addr) (l : List It) (n c a b : Nat) (w : World) (hp : Rd encT 3 w A l) (hn : n = l.length) (ha : 0 < a) (hb : 0 < b) (ha2 : a ≤ 100) (hb2 : b ≤ 100) (hlen : l.length ≤ 10) (hl : l.any badI = false) :
    Ct P 19 #[int a, int b, .slice A n c] w [] (fun r L => ∃ o c', r = .tuple #[int (W l a b), slv o (Pl l a b).length c', int 0] ∧ L = [ownC o c' (Pl l a b)]) := by
  subst hn
  have hs : sheetF (a : Int) (b : Int) l = 0 := by rw [sheetF, if_neg (by omega), if_neg (by omega), if_neg (by rw [hl]; decide)]
  refine Ct.of_body (rs := [.tmp 6, .tmp 7, .tmp 8]) (N := 30) (L := []) Try.func19 rfl rfl rfl (by kernel_rfl) rfl (Mem.refl w) ?_
  refine HW.seq (HW.region [(0, .st), (1, .st), (2, .st)] rfl rfl ?_)
  refine Plan.assign (v := .int _ _) rfl rfl rfl ?_
  refine Plan.assign (v := .slice _ _ _) rfl rfl rfl ?_
  refine Plan.assign (v := .int _ _) rfl rfl rfl ?_
  refine Plan.done ?_
  refine HW.seq ?_
  refine HW.seq (HW.region [(0, .st), (1, .st), (2, .st), (3, .ef), (4, .st)] rfl rfl ?_)
  refine Plan.move (v := .int _ _) rfl rfl rfl ?_
  refine Plan.move (v := .int _ _) rfl rfl rfl ?_
  refine Plan.move (v := .slice _ _ _) rfl rfl rfl ?_
  refine Plan.callF [] 0 rfl rfl rfl (.inl rfl) (by simp) (fun w hm => sheet_ct a b A l _ c w (hp.mem hm) rfl (by omega)) ?_   -- tinplate/blank.sheet
  rintro v Ln ⟨rfl, rfl⟩
  refine Plan.assign (v := .int _ _) rfl rfl rfl ?_
  refine Plan.done ?_
  refine HW.seq (HW.region [(0, .st), (1, .st)] rfl rfl ?_)
  refine Plan.move (v := .int _ _) rfl rfl rfl ?_
  refine Plan.cmp2 rfl rfl rfl rfl rfl (fun h16 => ?_) (fun h16 => ?_)
  · replace h16 := ne_of_t h16
    exact absurd hs h16
  · replace h16 := eq_of_f h16
    refine Plan.done ?_
    refine HW.cond_false rfl ?_
    refine HW.skip ?_
    refine HW.seq (HW.region [(0, .st), (1, .ef), (2, .st), (3, .ef), (4, .st)] rfl rfl ?_)
    refine Plan.move (v := .slice _ _ _) rfl rfl rfl ?_
    refine Plan.makeMap vc int rfl rfl fun b19 => ?_
    refine Plan.build rfl rfl rfl (fun w => bldcutter ..) ?_
    refine Plan.boxA rfl rfl rfl fun b21 => ?_
    refine Plan.assign (v := .pointer _) rfl rfl rfl ?_
    refine Plan.done ?_
    refine HW.seq (HW.region [(0, .st), (1, .st), (2, .st), (3, .ef), (4, .st), (5, .st), (6, .st), (7, .ef), (8, .st), (9, .st), (10, .st)] rfl rfl ?_)
    refine Plan.move (v := .pointer _) rfl rfl rfl ?_
    refine Plan.move (v := .int _ _) rfl rfl rfl ?_
    refine Plan.move (v := .int _ _) rfl rfl rfl ?_
    refine Plan.callJ [b19] 1 rfl rfl rfl hDn ⟨_, rfl, by simp [Res.mp, Res.obj]⟩ (fun w hm => (by
        have hd := (List.pairwise_cons.1 hm.sep).1 (Res.mp vc int b19 []) (by simp) b21 (by simp [Res.blk])
        have hne : b21 ≠ b19 := fun e => hd (by simp [Res.mp, Res.obj, e])
        exact worth_ct l A c b21 b19 hl hlen hne (a + b) a b [] w (Nat.le_refl _) ha hb ha2 hb2 (hp.mem hm) (hm.res (Res.blk b21 #[.slice A l.length c, .map (some b19)] 79) (by simp)) (hm.res (Res.mp vc int b19 []) (by simp)) (fun e he => by simp at he))) ?_   -- (*tinplate/blank.cutter).worth
    rintro v Ln ⟨kv1, hkv1, rfl, rfl⟩
    refine Plan.move (v := .pointer _) rfl rfl rfl ?_
    refine Plan.move (v := .int _ _) rfl rfl rfl ?_
    refine Plan.move (v := .int _ _) rfl rfl rfl ?_
    refine Plan.callF [b19] 1 rfl rfl rfl (.inr hDn) (by simp [Res.mp, Res.obj]) (fun w hm => (by
        have hd := (List.pairwise_cons.1 hm.sep).1 (Res.blk b21 #[.slice A l.length c, .map (some b19)] 79) (by simp) b19 (by simp [Res.mp, Res.obj])
        have hne : b21 ≠ b19 := fun e => hd (by simp [Res.blk, e])
        exact plan_ct l A c b21 b19 hl hlen hne (a + b) a b kv1 w (Nat.le_refl _) ha hb ha2 hb2 (hp.mem hm) (hm.res (Res.blk b21 #[.slice A l.length c, .map (some b19)] 79) (by simp)) (hm.res (Res.mp vc int b19 kv1) (by simp)) hkv1)) ?_   -- (*tinplate/blank.cutter).plan
    rintro v Ln ⟨kv2, o, c1, hkv2, rfl, rfl⟩
    refine Plan.assign (v := .int _ _) rfl rfl rfl ?_
    refine Plan.assign (v := .slice _ _ _) rfl rfl rfl ?_
    refine Plan.assign (v := .int _ _) rfl rfl rfl ?_
    refine Plan.done ?_
    exact HW.ret ⟨rfl, _, [ownC o c1 (Pl l a b)], .tmp rfl (.tmp rfl (.tmp rfl .nil)), .cons_cons _ (List.nil_sublist _), o, c1, rfl, rfl⟩

theorem Best_no (A : Option Addr) (l : List It) (n c : Nat) (x y : Int) (w : World) (hp : Rd encT 3 w A l) (hn : n = l.length) (hlen : l.length ≤ 1000000) (hs : sheetF x y l ≠ 0) :
    Ct P 19 #[int x, int y, .slice A n c] w [] (fun r L => r = .tuple #[int 0, .slice none 0 0, int (sheetF x y l)] ∧ L = []) := by
  subst hn
  refine Ct.of_body (rs := [.tmp 6, .tmp 7, .tmp 8]) (N := 30) (L := []) Try.func19 rfl rfl rfl (by kernel_rfl) rfl (Mem.refl w) ?_
  refine HW.seq (HW.region [(0, .st), (1, .st), (2, .st)] rfl rfl ?_)
  refine Plan.assign (v := .int _ _) rfl rfl rfl ?_
  refine Plan.assign (v := .slice _ _ _) rfl rfl rfl ?_
  refine Plan.assign (v := .int _ _) rfl rfl rfl ?_
  refine Plan.done ?_
  refine HW.seq ?_
  refine HW.seq (HW.region [(0, .st), (1, .st), (2, .st), (3, .ef), (4, .st)] rfl rfl ?_)
  refine Plan.move (v := .int _ _) rfl rfl rfl ?_
  refine Plan.move (v := .int _ _) rfl rfl rfl ?_
  refine Plan.move (v := .slice _ _ _) rfl rfl rfl ?_
  refine Plan.callF [] 0 rfl rfl rfl (.inl rfl) (by simp) (fun w hm => sheet_ct x y A l _ c w (hp.mem hm) rfl (by omega)) ?_   -- tinplate/blank.sheet
  rintro v Ln ⟨rfl, rfl⟩
  refine Plan.assign (v := .int _ _) rfl rfl rfl ?_
  refine Plan.done ?_
  refine HW.seq (HW.region [(0, .st), (1, .st)] rfl rfl ?_)
  refine Plan.move (v := .int _ _) rfl rfl rfl ?_
  refine Plan.cmp2 rfl rfl rfl rfl rfl (fun h16 => ?_) (fun h16 => ?_)
  · replace h16 := ne_of_t h16
    refine Plan.done ?_
    refine HW.cond_true rfl ?_
    refine HW.seq (HW.region [(0, .st), (1, .st), (2, .st), (3, .st)] rfl rfl ?_)
    refine Plan.move (v := .int _ _) rfl rfl rfl ?_
    refine Plan.assign (v := .int _ _) rfl rfl rfl ?_
    refine Plan.assign (v := .slice _ _ _) rfl rfl rfl ?_
    refine Plan.assign (v := .int _ _) rfl rfl rfl ?_
    refine Plan.done ?_
    exact HW.ret ⟨rfl, _, [], .tmp rfl (.tmp rfl (.tmp rfl .nil)), List.nil_sublist _, rfl, rfl⟩
  · replace h16 := eq_of_f h16
    exact absurd h16 hs

end Go.Proofs.Ytjmklbkcpjmcaaa.V
