/-
  BlankLays, its contract.
-/
import Derived.Test.YtjmklbkcpjmcaaaBu
import Derived.Test.YtjmklbkcpjmcaaaBv
import Derived.Test.YtjmklbkcpjmcaaaBa
import Derived.Test.YtjmklbkcpjmcaaaV15
import Derived.Test.YtjmklbkcpjmcaaaHd
namespace Go.Proofs.Ytjmklbkcpjmcaaa.V
open Go Go.RowKit Go.Proofs.Ytjmklbkcpjmcaaa.H Go.Proofs.Ytjmklbkcpjmcaaa.LL
set_option linter.unusedVariables false
set_option linter.unusedSimpArgs false

theorem lay_bd {p : List Pt} {g : Gd} {x y : Int} : (∀ v ∈ (LayF p g x y).1, Bd 100 v.1 ∧ Bd 100 v.2) ∧ (LayF p g x y).1.length ≤ 10201 := by
  unfold LayF
  split
  · next h =>
    simp only [LayB, Bool.and_eq_true, decide_eq_true_eq] at h
    obtain ⟨⟨⟨hb, hg⟩, hadm⟩, h1, h2, h3, h4⟩ := h
    refine ⟨fun v hv => pls_bd hb h2 h4 (List.mem_filter.1 hv).1, ?_⟩
    have hs := (size_bd hb h2 h4).2.2
    have hpl : (pls p x y).length = nyF p y * nxF p x := plN_len _ _ _
    exact Nat.le_trans (List.length_filter_le _ _) (by omega)
  · exact ⟨fun v hv => by simp at hv, Nat.zero_le _⟩

structure LwG where
  k : Nat
  xs : List Pt

theorem Lays_far (A : Option Addr) (p : List Pt) (n c : Nat) (a b d x y : Int) (w : World) (hn : n = p.length) (h60 : ¬ p.length ≤ 60) :
    Ct P 9 #[.slice A n c, gdv a b d, int x, int y] w [] (fun r L => r = .bool true ∧ L = []) := by
  subst hn
  refine Ct.of_body (rs := [.tmp 8]) (N := 72) (L := []) Try.func9 rfl rfl rfl (by kernel_rfl) rfl (Mem.refl w) ?_
  refine HW.seq (HW.region [(0, .ef), (1, .st)] rfl rfl ?_)
  refine Plan.boxA rfl rfl rfl fun b5 => ?_
  refine Plan.assign (v := .bool _) rfl rfl rfl ?_
  refine Plan.done ?_
  refine HW.seq ?_
  refine HW.seq (HW.region [(0, .st), (1, .ef), (2, .st)] rfl rfl ?_)
  refine Plan.move (v := .slice _ _ _) rfl rfl rfl ?_
  refine Plan.callF [] 0 rfl rfl rfl (.inl rfl) (by simp) (fun w hm => few_ct A p _ c w rfl) ?_   -- tinplate/tinplatelaw04.few
  rintro v Ln ⟨rfl, rfl⟩
  refine Plan.splitB (fun h17 => ?_) (fun h17 => ?_)
  · skip
    exact absurd (of_decide_eq_true h17) h60
  · skip
    refine Plan.not rfl rfl rfl ?_
    refine Plan.done ?_
    refine HW.cond_true rfl ?_
    refine HW.seq (HW.region [(0, .ef), (1, .st)] rfl rfl ?_)
    refine Plan.callF [] 0 rfl rfl rfl (.inl rfl) (by simp) (fun w hm => alive_ct w) ?_   -- tinplate/tinplatelaw04.alive
    rintro v Ln ⟨rfl, rfl⟩
    refine Plan.splitB (fun h19 => ?_) (fun h19 => ?_)
    · skip
      refine Plan.assign (v := .bool _) rfl rfl rfl ?_
      refine Plan.done ?_
      exact HW.ret ⟨rfl, _, [], .tmp rfl .nil, List.nil_sublist _, rfl, rfl⟩
    · skip
      exact absurd h19 (by decide)

theorem Lays_ok (A : Option Addr) (p : List Pt) (n c : Nat) (a b d x y : Int) (w : World) (hp : Rd enc 2 w A p) (hn : n = p.length) (h60 : p.length ≤ 60) :
    Ct P 9 #[.slice A n c, gdv a b d, int x, int y] w [] (fun r L => r = .bool true ∧ L = []) := by
  subst hn
  obtain ⟨hbd, hlM⟩ := lay_bd (p := p) (g := (a, b, d)) (x := x) (y := y)
  refine Ct.of_body (rs := [.tmp 8]) (N := 72) (L := []) Try.func9 rfl rfl rfl (by kernel_rfl) rfl (Mem.refl w) ?_
  refine HW.seq (HW.region [(0, .ef), (1, .st)] rfl rfl ?_)
  refine Plan.boxA rfl rfl rfl fun b5 => ?_
  refine Plan.assign (v := .bool _) rfl rfl rfl ?_
  refine Plan.done ?_
  refine HW.seq ?_
  refine HW.seq (HW.region [(0, .st), (1, .ef), (2, .st)] rfl rfl ?_)
  refine Plan.move (v := .slice _ _ _) rfl rfl rfl ?_
  refine Plan.callF [] 0 rfl rfl rfl (.inl rfl) (by simp) (fun w hm => few_ct A p _ c w rfl) ?_   -- tinplate/tinplatelaw04.few
  rintro v Ln ⟨rfl, rfl⟩
  refine Plan.splitB (fun h17 => ?_) (fun h17 => ?_)
  · skip
    refine Plan.not rfl rfl rfl ?_
    refine Plan.done ?_
    refine HW.cond_false rfl ?_
    refine HW.skip ?_
    refine HW.seq (HW.region [(0, .ef), (1, .st), (2, .ef), (3, .st)] rfl rfl ?_)
    refine Plan.buildOwn (xs := ([] : List Pt)) (enc := enc) (sz := 2) rfl rfl rfl (bs0) rfl rfl (by simp) rfl fun b20 => ?_
    refine Plan.move (v := .slice _ _ _) rfl rfl rfl ?_
    refine Plan.appendRd (enc := enc) (sz := 2) (ys := p) (0) rfl rfl hDn slV infV rfl (by decide) enc2 enc1 rfl rfl rfl rfl rfl (fun w hm => hp.mem hm) (by simp; omega) (by simp; omega) fun o22 c22 => ?_
    refine Plan.assign (v := .slice _ _ _) rfl rfl rfl ?_
    refine Plan.done ?_
    refine HW.seq (HW.region [(0, .st), (1, .st), (2, .st), (3, .st), (4, .ef), (5, .st), (6, .st), (7, .st), (8, .st), (9, .st)] rfl rfl ?_)
    refine Plan.move (v := .slice _ _ _) rfl rfl rfl ?_
    refine Plan.loadAll 1 rfl rfl aggGrid sizGrid rfl rfl rfl ?_
    refine Plan.move (v := .int _ _) rfl rfl rfl ?_
    refine Plan.move (v := .int _ _) rfl rfl rfl ?_
    refine Plan.callF [] 0 rfl rfl rfl (.inl rfl) (by simp) (fun w hm => LayR_ct A p _ c a b d x y w (hp.mem hm) rfl (by omega)) ?_   -- tinplate/tinplateref04.Lay
    rintro v Ln ⟨o1, c1, rfl, rfl⟩
    refine Plan.move (v := .tuple _) rfl rfl rfl ?_
    refine Plan.extract (v := .slice _ _ _) rfl rfl rfl rfl ?_
    refine Plan.extract (v := .int _ _) rfl rfl rfl rfl ?_
    refine Plan.assign (v := .slice _ _ _) rfl rfl rfl ?_
    refine Plan.assign (v := .int _ _) rfl rfl rfl ?_
    refine Plan.done ?_
    refine HW.seq ?_
    refine HW.seq (HW.region [(0, .st)] rfl rfl ?_)
    refine Plan.assign (v := .int _ _) rfl rfl rfl ?_
    refine Plan.done ?_
    refine HW.block ?_
    refine HW.loopL (G := Nat) [8, 12, 13, 14, 15, 31, 32, 33, 34, 35, 36, 37, 38, 39, 40, 41, 42, 43, 44, 45, 46, 47, 48, 49, 50, 51, 52, 53, 54, 55, 56, 57, 58, 59, 60, 61, 62, 63, 64, 65] (fun g => [(12, int ((g : Nat) : Int))]) (fun g => [ownV o1 c1 (LayF p (a, b, d) x y).1, ownV o22 c22 ([] ++ p), Res.blk b5 #[int a, int b, int d] 26]) (fun g => g ≤ 2) (fun g => 2 - g) (0) ⟨rfl, trivial⟩ (fun w' hm => hm) (Nat.zero_le _) (fun g F hok => ?_)
    refine HW.seq ?_
    refine HW.seq (HW.region [(0, .st), (1, .st)] rfl rfl ?_)
    refine Plan.move (v := .int _ _) rfl rfl rfl ?_
    refine Plan.cmp2 rfl rfl rfl rfl rfl (fun h32 => ?_) (fun h32 => ?_)
    · replace h32 := of_decide_eq_true h32
      have hg2 : g < 2 := by omega
      refine Plan.done ?_
      refine HW.cond_true rfl ?_
      refine HW.skip ?_
      refine HW.seq ?_
      refine HW.block ?_
      refine HW.seq (HW.region [(0, .st), (1, .st), (2, .st), (3, .st), (4, .ef), (5, .st), (6, .st), (7, .st), (8, .st), (9, .st)] rfl rfl ?_)
      refine Plan.move (v := .slice _ _ _) rfl rfl rfl ?_
      refine Plan.loadAll 2 rfl rfl aggGrid sizGrid rfl rfl rfl ?_
      refine Plan.move (v := .int _ _) rfl rfl rfl ?_
      refine Plan.move (v := .int _ _) rfl rfl rfl ?_
      refine Plan.callF [] 0 rfl rfl rfl (.inl rfl) (by simp) (fun w hm => LayB_ct (at0 o22) p (0 + p.length) c22 a b d x y w (Res.own_rd enc2 (hm.res (ownV o22 c22 ([] ++ p)) (by simp))) (by simp) (by omega)) ?_   -- tinplate/blank.Lay
      rintro v Ln ⟨o2, c2, rfl, rfl⟩
      refine Plan.move (v := .tuple _) rfl rfl rfl ?_
      refine Plan.extract (v := .slice _ _ _) rfl rfl rfl rfl ?_
      refine Plan.extract (v := .int _ _) rfl rfl rfl rfl ?_
      refine Plan.assign (v := .slice _ _ _) rfl rfl rfl ?_
      refine Plan.assign (v := .int _ _) rfl rfl rfl ?_
      refine Plan.done ?_
      refine HW.seq ?_
      refine HW.seq (HW.region [(0, .st), (1, .st), (2, .ef), (3, .st), (4, .st), (5, .st), (6, .st), (7, .st), (8, .st)] rfl rfl ?_)
      refine Plan.move (v := .slice _ _ _) rfl rfl rfl ?_
      refine Plan.move (v := .slice _ _ _) rfl rfl rfl ?_
      refine Plan.callF [] 0 rfl rfl rfl (.inl rfl) (by simp) (fun w hm => same_ct (at0 o2) (at0 o1) (LayF p (a, b, d) x y).1 (LayF p (a, b, d) x y).1 _ c2 _ c1 w (Res.own_rd enc2 (hm.res (ownV o2 c2 (LayF p (a, b, d) x y).1) (by simp))) (Res.own_rd enc2 (hm.res (ownV o1 c1 (LayF p (a, b, d) x y).1) (by simp))) rfl rfl (by omega) (by omega)) ?_   -- tinplate/tinplatelaw04.same
      rintro v Ln ⟨rfl, rfl⟩
      refine Plan.splitB (fun h45 => ?_) (fun h45 => ?_)
      · skip
        refine Plan.not rfl rfl rfl ?_
        refine Plan.move (v := .bool _) rfl rfl rfl ?_
        refine Plan.move (v := .int _ _) rfl rfl rfl ?_
        refine Plan.move (v := .int _ _) rfl rfl rfl ?_
        refine Plan.cmp2 rfl rfl rfl rfl rfl (fun h50 => ?_) (fun h50 => ?_)
        · replace h50 := ne_of_t h50
          exact absurd rfl h50
        · replace h50 := eq_of_f h50
          refine Plan.pick (v := .bool _) rfl rfl rfl rfl ?_
          refine Plan.done ?_
          refine HW.cond_false rfl ?_
          refine HW.skip ?_
          refine HW.pure (p := 0 < (LayF p (a, b, d) x y).1.length → ∃ bb, o2 = some bb) (fun w' hm hpos => Res.own_some (hm.res (ownV o2 c2 (LayF p (a, b, d) x y).1) (by simp)) hpos) fun hob => ?_
          refine HW.seq (HW.region [(0, .st)] rfl rfl ?_)
          refine Plan.assign (v := .int _ _) rfl rfl rfl ?_
          refine Plan.done ?_
          refine HW.block ?_
          refine HW.loopL (G := LwG) [15, 52, 53, 54, 55, 56, 57, 58, 59, 60, 61, 62, 63, 64, 65] (fun g => [(15, int ((g.k : Nat) : Int))]) (fun g => [ownV o2 c2 g.xs, ownV o1 c1 (LayF p (a, b, d) x y).1, ownV o22 c22 ([] ++ p), Res.blk b5 #[int a, int b, int d] 26]) (fun g => g.k ≤ (LayF p (a, b, d) x y).1.length ∧ g.xs.length = (LayF p (a, b, d) x y).1.length ∧ ∀ j (h1 : j < g.xs.length) (h2 : j < (LayF p (a, b, d) x y).1.length), g.k ≤ j → g.xs[j] = (LayF p (a, b, d) x y).1[j]) (fun g => (LayF p (a, b, d) x y).1.length - g.k) (⟨0, (LayF p (a, b, d) x y).1⟩) ⟨rfl, trivial⟩ (fun w' hm => hm) (⟨Nat.zero_le _, rfl, fun j h1 h2 hj => rfl⟩) (fun g F hok => ?_)
          obtain ⟨k, xs⟩ := g
          obtain ⟨hk1, hk2, hk3⟩ := hok
          dsimp only at hk1 hk2 hk3
          dsimp only
          refine HW.seq ?_
          refine HW.seq (HW.region [(0, .st), (1, .st), (2, .st), (3, .st)] rfl rfl ?_)
          refine Plan.move (v := .int _ _) rfl rfl rfl ?_
          refine Plan.move (v := .slice _ _ _) rfl rfl rfl ?_
          refine Plan.len rfl rfl slV rfl ?_
          refine Plan.cmp2 rfl rfl rfl rfl rfl (fun h55 => ?_) (fun h55 => ?_)
          · replace h55 := of_decide_eq_true h55
            have hkM : k < (LayF p (a, b, d) x y).1.length := by omega
            have hkx : k < xs.length := by omega
            obtain ⟨bb, rfl⟩ := hob (by omega)
            have he := hk3 k hkx hkM (Nat.le_refl _)
            have hbb := (hbd _ (List.getElem_mem hkM)).1
            rw [← he] at hbb
            unfold Bd at hbb
            refine Plan.done ?_
            refine HW.cond_true rfl ?_
            refine HW.skip ?_
            refine HW.seq ?_
            refine HW.block ?_
            refine HW.region [(0, .st), (1, .st), (2, .st), (3, .st), (4, .st), (5, .st), (6, .st), (7, .st), (8, .ef)] rfl rfl ?_
            refine Plan.move (v := .slice _ _ _) rfl rfl rfl ?_
            refine Plan.move (v := .int _ _) rfl rfl rfl ?_
            refine Plan.indexN (k) rfl rfl slV sizV rfl rfl rfl rfl (hkM) ?_
            refine Plan.fieldAddr rfl rfl fldV0 rfl ?_
            refine Plan.load (v := .int _ _) rfl rfl aggI rfl (Sees.nth (Sees.own 0 enc2 rfl bb rfl k hkx) 0 rfl) ?_
            refine Plan.arithI rfl rfl rfl rfl rfl (by omega) ?_
            refine Plan.indexN (k) rfl rfl slV sizV rfl rfl rfl rfl (hkM) ?_
            refine Plan.fieldAddr rfl rfl fldV0 rfl ?_
            refine Plan.storeFld (enc := enc) (sz := 2) ((xs[k].1 + 1, xs[k].2)) (k) (0) (0) rfl rfl hDn sizI enc2 rfl rfl rfl rfl rfl rfl (by decide) (hkx) (rfl) ?_
            refine Plan.done ?_
            refine HW.region [(0, .st), (1, .st), (2, .st)] rfl rfl ?_
            refine Plan.move (v := .int _ _) rfl rfl rfl ?_
            refine Plan.arithI rfl rfl rfl rfl rfl (by omega) ?_
            refine Plan.assign (v := .int _ _) rfl rfl rfl ?_
            refine Plan.done ?_
            exact ⟨⟨k + 1, xs.set k (xs[k].1 + 1, xs[k].2)⟩, by simp only; omega, ⟨hkM, by simpa using hk2, fun j h1 h2 hj => by
                simp only at hj h1
                rw [List.getElem_set_ne (by omega)]
                exact hk3 j _ h2 (by omega)⟩, rfl, Ent.sub (.refl _), (by repeat (first | exact Agree.havoc _ _ _ | refine Agree.updN ?_ | refine Agree.upd rfl ?_ | refine Agree.updL rfl ?_ | refine Agree.havoc2 rfl ?_)), ⟨int_eq (by dsimp only; push_cast; omega), trivial⟩⟩
          · replace h55 := of_decide_eq_false h55
            refine Plan.done ?_
            refine HW.cond_false rfl ?_
            refine HW.exit ?_
            refine HW.region [(0, .st), (1, .st), (2, .st)] rfl rfl ?_
            refine Plan.move (v := .int _ _) rfl rfl rfl ?_
            refine Plan.arithI rfl rfl rfl rfl rfl (by omega) ?_
            refine Plan.assign (v := .int _ _) rfl rfl rfl ?_
            refine Plan.done ?_
            exact ⟨g + 1, by simp only; omega, hg2, rfl, Ent.sub (.cons _ (.refl _)), (by repeat (first | exact Agree.havoc _ _ _ | refine Agree.updN ?_ | refine Agree.upd rfl ?_ | refine Agree.updL rfl ?_ | refine Agree.havoc2 rfl ?_)), ⟨int_eq (by push_cast; omega), trivial⟩⟩
      · skip
        exact absurd h45 (by simp)
    · replace h32 := of_decide_eq_false h32
      refine Plan.done ?_
      refine HW.cond_false rfl ?_
      refine HW.exit ?_
      refine HW.seq (HW.region [(0, .st), (1, .st), (2, .ef), (3, .st), (4, .ef), (5, .st), (6, .st)] rfl rfl ?_)
      refine Plan.move (v := .slice _ _ _) rfl rfl rfl ?_
      refine Plan.move (v := .slice _ _ _) rfl rfl rfl ?_
      refine Plan.callF [] 0 rfl rfl rfl (.inl rfl) (by simp) (fun w hm => same_ct (at0 o22) A ([] ++ p) p _ c22 _ c w (Res.own_rd enc2 (hm.res (ownV o22 c22 ([] ++ p)) (by simp))) (hp.mem hm) (by simp) rfl (by simp; omega) (by omega)) ?_   -- tinplate/tinplatelaw04.same
      rintro v Ln ⟨rfl, rfl⟩
      refine Plan.splitB (fun h68 => ?_) (fun h68 => ?_)
      · skip
        refine Plan.move (v := .bool _) rfl rfl rfl ?_
        refine Plan.callF [] 0 rfl rfl rfl (.inl rfl) (by simp) (fun w hm => alive_ct w) ?_   -- tinplate/tinplatelaw04.alive
        rintro v Ln ⟨rfl, rfl⟩
        refine Plan.splitB (fun h70 => ?_) (fun h70 => ?_)
        · skip
          refine Plan.pick (v := .bool _) rfl rfl rfl rfl ?_
          refine Plan.assign (v := .bool _) rfl rfl rfl ?_
          refine Plan.done ?_
          exact HW.ret ⟨rfl, _, [], .tmp rfl .nil, List.nil_sublist _, rfl, rfl⟩
        · skip
          exact absurd h70 (by decide)
      · skip
        exact absurd h68 (by simp)
  · skip
    exact absurd h60 (of_decide_eq_false h17)

theorem blankLays_ct (A : Option Addr) (p : List Pt) (a b d x y : Int) (n c : Nat) (w : World) (hp : Rd enc 2 w A p) (hn : n = p.length) :
    Ct P 9 #[.slice A n c, gdv a b d, int x, int y] w [] (fun r L => r = .bool true ∧ L = []) := by
  by_cases h60 : p.length ≤ 60
  · exact Lays_ok A p n c a b d x y w hp hn h60
  · exact Lays_far A p n c a b d x y w hn h60

end Go.Proofs.Ytjmklbkcpjmcaaa.V
