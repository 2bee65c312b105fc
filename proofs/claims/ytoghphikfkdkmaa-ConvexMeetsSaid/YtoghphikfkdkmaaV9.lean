/-
  Area, Place, extreme, Extreme, Points.
-/
import Derived.Test.YtoghphikfkdkmaaV8
namespace Go.Proofs.Ytoghphikfkdkmaa.V
open Go Go.RowKit Go.Proofs.Ytoghphikfkdkmaa.H
set_option linter.unusedVariables false
set_option linter.unusedSimpArgs false

theorem validF_spec {ps : List Pt} (h : validF ps = true) : 3 ≤ ps.length ∧ ps.length ≤ 32 ∧ (∀ q ∈ ps, Bd2 1000 q.1 q.2) ∧ hullF ps = ps := by
  simp only [validF, Bool.and_eq_true, Bool.not_eq_true', Bool.or_eq_false_iff, decide_eq_false_iff_not, decide_eq_true_eq] at h
  obtain ⟨⟨⟨h1, h2⟩, h3⟩, h4⟩ := h
  refine ⟨by omega, by omega, fun q hq => ?_, h4⟩
  have := List.any_eq_false.1 h3 q hq
  exact okB_bd (by simpa using this)

def AreaF (ps : List Pt) : Int × Int := if validF ps then (areaC ps, 0) else (0, 2)
def PlaceF (ps : List Pt) (v : Pt) : Int × Int := if validF ps && okB v.1 v.2 then (placeF ps v, 0) else (0, 2)

theorem Area_ct (A : Option Addr) (ps : List Pt) (n c : Nat) (w : World) (hp : Rd enc 2 w A ps) (hn : n = ps.length) (hlen : ps.length ≤ 1000000) :
    Ct P 11 #[.slice A n c] w [] (fun v L => v = .tuple #[int (AreaF ps).1, int (AreaF ps).2] ∧ L = []) := by
  subst hn
  refine Ct.of_body (rs := [.tmp 2, .tmp 3]) (N := 9) (L := []) Try.func11 rfl rfl rfl (by kernel_rfl) rfl (Mem.refl w) ?_
  refine HW.seq (HW.region [(0, .st), (1, .st)] rfl rfl ?_)
  refine Plan.assign (v := .int _ _) rfl rfl rfl ?_
  refine Plan.assign (v := .int _ _) rfl rfl rfl ?_
  refine Plan.done ?_
  refine HW.seq ?_
  refine HW.seq (HW.region [(0, .st), (1, .ef), (2, .st)] rfl rfl ?_)
  refine Plan.move (v := .slice _ _ _) rfl rfl rfl ?_
  refine Plan.callF [] 0 rfl rfl rfl (.inl rfl) (by simp) (fun w hm => Valid_ct A ps c _ w (hp.mem hm) rfl (by omega)) ?_   -- tinplate/convex.Valid
  rintro v Ln ⟨rfl, rfl⟩
  refine Plan.splitB (fun h5 => ?_) (fun h5 => ?_)
  · skip
    obtain ⟨v1, v2, v3, v4⟩ := validF_spec h5
    refine Plan.not rfl rfl rfl ?_
    refine Plan.done ?_
    refine HW.cond_false rfl ?_
    refine HW.skip ?_
    refine HW.seq (HW.region [(0, .st), (1, .ef), (2, .st), (3, .st)] rfl rfl ?_)
    refine Plan.move (v := .slice _ _ _) rfl rfl rfl ?_
    refine Plan.callF [] 0 rfl rfl rfl (.inl rfl) (by simp) (fun w hm => area_ct A ps _ c w (hp.mem hm) rfl (by omega) (by omega) (fun q hq => (v3 q hq).mono (by omega))) ?_   -- tinplate/convex.area
    rintro v Ln ⟨rfl, rfl⟩
    refine Plan.assign (v := .int _ _) rfl rfl rfl ?_
    refine Plan.assign (v := .int _ _) rfl rfl rfl ?_
    refine Plan.done ?_
    exact HW.ret ⟨rfl, _, [], .tmp rfl (.tmp rfl .nil), List.nil_sublist _, (by rw [AreaF, if_pos h5]; rfl), rfl⟩
  · skip
    refine Plan.not rfl rfl rfl ?_
    refine Plan.done ?_
    refine HW.cond_true rfl ?_
    refine HW.seq (HW.region [(0, .st), (1, .st)] rfl rfl ?_)
    refine Plan.assign (v := .int _ _) rfl rfl rfl ?_
    refine Plan.assign (v := .int _ _) rfl rfl rfl ?_
    refine Plan.done ?_
    exact HW.ret ⟨rfl, _, [], .tmp rfl (.tmp rfl .nil), List.nil_sublist _, (by rw [AreaF, if_neg (by rw [h5]; decide)]; rfl), rfl⟩

theorem Place_ct (A : Option Addr) (ps : List Pt) (v : Pt) (n c : Nat) (w : World) (hp : Rd enc 2 w A ps) (hn : n = ps.length) (hlen : ps.length ≤ 1000000) :
    Ct P 16 #[.slice A n c, vc v] w [] (fun r L => r = .tuple #[int (PlaceF ps v).1, int (PlaceF ps v).2] ∧ L = []) := by
  subst hn
  refine Ct.of_body (rs := [.tmp 4, .tmp 5]) (N := 17) (L := []) Try.func16 rfl rfl rfl (by kernel_rfl) rfl (Mem.refl w) ?_
  refine HW.seq (HW.region [(0, .ef), (1, .st), (2, .st)] rfl rfl ?_)
  refine Plan.boxA rfl rfl rfl fun b3 => ?_
  refine Plan.assign (v := .int _ _) rfl rfl rfl ?_
  refine Plan.assign (v := .int _ _) rfl rfl rfl ?_
  refine Plan.done ?_
  refine HW.seq ?_
  refine HW.seq (HW.region [(0, .st), (1, .ef), (2, .st), (3, .st), (4, .st), (5, .ef), (6, .st), (7, .st)] rfl rfl ?_)
  refine Plan.move (v := .slice _ _ _) rfl rfl rfl ?_
  refine Plan.callF [] 0 rfl rfl rfl (.inl rfl) (by simp) (fun w hm => Valid_ct A ps c _ w (hp.mem hm) rfl (by omega)) ?_   -- tinplate/convex.Valid
  rintro v Ln ⟨rfl, rfl⟩
  refine Plan.splitB (fun h7 => ?_) (fun h7 => ?_)
  · skip
    obtain ⟨v1, v2, v3, v4⟩ := validF_spec h7
    refine Plan.not rfl rfl rfl ?_
    refine Plan.move (v := .bool _) rfl rfl rfl ?_
    refine Plan.loadAll 0 rfl rfl aggV sizV rfl rfl rfl ?_
    refine Plan.callF [] 0 rfl rfl rfl (.inl rfl) (by simp) (fun w hm => valid_ct v.1 v.2 w) ?_   -- tinplate/convex.valid
    rintro v Ln ⟨rfl, rfl⟩
    refine Plan.splitB (fun h11 => ?_) (fun h11 => ?_)
    · skip
      have hb := okB_bd h11
      refine Plan.not rfl rfl rfl ?_
      refine Plan.pick (v := .bool _) rfl rfl rfl rfl ?_
      refine Plan.done ?_
      refine HW.cond_false rfl ?_
      refine HW.skip ?_
      refine HW.seq (HW.region [(0, .st), (1, .st), (2, .ef), (3, .st), (4, .st)] rfl rfl ?_)
      refine Plan.move (v := .slice _ _ _) rfl rfl rfl ?_
      refine Plan.loadAll 0 rfl rfl aggV sizV rfl rfl rfl ?_
      refine Plan.callF [] 0 rfl rfl rfl (.inl rfl) (by simp) (fun w hm => place_ct A ps v _ c w (hp.mem hm) rfl (by omega) (by omega) (fun q hq => (v3 q hq).mono (by omega)) (hb.mono (by omega))) ?_   -- tinplate/convex.place
      rintro v Ln ⟨rfl, rfl⟩
      refine Plan.assign (v := .int _ _) rfl rfl rfl ?_
      refine Plan.assign (v := .int _ _) rfl rfl rfl ?_
      refine Plan.done ?_
      exact HW.ret ⟨rfl, _, [], .tmp rfl (.tmp rfl .nil), List.nil_sublist _, (by rw [PlaceF, if_pos (by rw [h7, h11]; rfl)]; rfl), rfl⟩
    · skip
      refine Plan.not rfl rfl rfl ?_
      refine Plan.pick (v := .bool _) rfl rfl rfl rfl ?_
      refine Plan.done ?_
      refine HW.cond_true rfl ?_
      refine HW.seq (HW.region [(0, .st), (1, .st)] rfl rfl ?_)
      refine Plan.assign (v := .int _ _) rfl rfl rfl ?_
      refine Plan.assign (v := .int _ _) rfl rfl rfl ?_
      refine Plan.done ?_
      exact HW.ret ⟨rfl, _, [], .tmp rfl (.tmp rfl .nil), List.nil_sublist _, (by rw [PlaceF, if_neg (by rw [h7, h11]; decide)]; rfl), rfl⟩
  · skip
    refine Plan.not rfl rfl rfl ?_
    refine Plan.move (v := .bool _) rfl rfl rfl ?_
    refine Plan.no rfl rfl ?_
    refine Plan.noE rfl rfl ?_
    refine Plan.no rfl rfl ?_
    refine Plan.pick (v := .bool _) rfl rfl rfl rfl ?_
    refine Plan.done ?_
    refine HW.cond_true rfl ?_
    refine HW.seq (HW.region [(0, .st), (1, .st)] rfl rfl ?_)
    refine Plan.assign (v := .int _ _) rfl rfl rfl ?_
    refine Plan.assign (v := .int _ _) rfl rfl rfl ?_
    refine Plan.done ?_
    exact HW.ret ⟨rfl, _, [], .tmp rfl (.tmp rfl .nil), List.nil_sublist _, (by rw [PlaceF, if_neg (by rw [h7]; simp)]; rfl), rfl⟩

def dotP (a b : Pt) : Int := dotI a.1 a.2 b.1 b.2
/-- the first of the first k vertices with the most -/
def extAt (ps : List Pt) (d : Pt) : Nat → Nat
  | 0 => 0
  | k + 1 => if dotP d (nth ps k) > dotP d (nth ps (extAt ps d k)) then k else extAt ps d k
theorem extAt_lt (ps : List Pt) (d : Pt) : ∀ k, extAt ps d k = 0 ∨ extAt ps d k < k
  | 0 => .inl rfl
  | k + 1 => by
    unfold extAt
    split
    · exact .inr (Nat.lt_succ_self k)
    · exact (extAt_lt ps d k).imp id (fun h => by omega)
def extF (ps : List Pt) (d : Pt) : Int × Int := (dotP d (nth ps (extAt ps d ps.length)), (extAt ps d ps.length : Int))

theorem extreme_ct (a : Addr) (ps : List Pt) (d : Pt) (n c : Nat) (w : World) (hp : Rd enc 2 w (some a) ps) (hn : n = ps.length) (h0 : 0 < ps.length) (hlen : ps.length ≤ 1000000) (hbd : ∀ q ∈ ps, Bd2 100000 q.1 q.2) (hd : Bd2 100000 d.1 d.2) :
    Ct P 44 #[.slice (some a) n c, vc d] w [] (fun r L => r = .tuple #[int (extF ps d).1, int (extF ps d).2] ∧ L = []) := by
  subst hn
  refine Ct.of_body (rs := [.tmp 4, .tmp 5]) (N := 35) (L := []) Try.func44 rfl rfl rfl (by kernel_rfl) rfl (Mem.refl w) ?_
  refine HW.seq (HW.region [(0, .ef), (1, .st), (2, .st)] rfl rfl ?_)
  refine Plan.boxA rfl rfl rfl fun b3 => ?_
  refine Plan.assign (v := .int _ _) rfl rfl rfl ?_
  refine Plan.assign (v := .int _ _) rfl rfl rfl ?_
  refine Plan.done ?_
  refine HW.seq (HW.region [(0, .st)] rfl rfl ?_)
  refine Plan.assign (v := .int _ _) rfl rfl rfl ?_
  refine Plan.done ?_
  refine HW.seq ?_
  refine HW.seq (HW.region [(0, .st), (1, .st), (2, .st)] rfl rfl ?_)
  refine Plan.move (v := .slice _ _ _) rfl rfl rfl ?_
  refine Plan.len rfl rfl slV rfl ?_
  refine Plan.move (v := .int _ _) rfl rfl rfl ?_
  refine Plan.done ?_
  refine HW.block ?_
  refine HW.loopC (G := Nat) [6, 7, 8, 11, 12, 13, 14, 15, 16, 17, 18, 19, 20, 21, 22, 23, 24, 25, 26, 27] (fun g => [(11, int g), (6, int (extAt ps d g))]) (fun g => g ≤ ps.length) (fun g => ps.length - g) (0) ⟨rfl, rfl, trivial⟩ (Nat.zero_le _) (fun g F hok => ?_)
  refine HW.seq (HW.region [(0, .st)] rfl rfl ?_)
  refine Plan.cmp2 rfl rfl rfl rfl rfl (fun h12 => ?_) (fun h12 => ?_)
  · replace h12 := of_decide_eq_true h12
    have hlt : g < ps.length := by omega
    have hel := extAt_lt ps d g
    have hlt2 : extAt ps d g < ps.length := by omega
    have hun : extAt ps d (g + 1) = if dotP d (nth ps g) > dotP d (nth ps (extAt ps d g)) then g else extAt ps d g := rfl
    rw [nth_get hlt, nth_get hlt2] at hun
    refine Plan.done ?_
    refine HW.seq ?_
    refine HW.cond_true rfl ?_
    refine HW.skip ?_
    refine HW.seq ?_
    refine HW.block ?_
    refine HW.seq (HW.region [(0, .st), (1, .st), (2, .st), (3, .al), (4, .st), (5, .ef)] rfl rfl ?_)
    refine Plan.move (v := .int _ _) rfl rfl rfl ?_
    refine Plan.indexN (g) rfl rfl slV sizV rfl rfl rfl rfl (hlt) ?_
    refine Plan.loadAgg rfl rfl aggV sizV rfl (Sees.rd hp rfl g hlt) rfl ?_
    refine Plan.alloc rfl zerV fun b8 => ?_
    refine Plan.assign (v := .int _ _) rfl rfl rfl ?_
    refine Plan.storeA 0 rfl rfl hDn sizV rfl rfl rfl rfl rfl rfl ?_
    refine Plan.done ?_
    refine HW.seq (HW.region_any [] [(0, .st), (1, .st), (3, .st), (4, .st), (5, .st), (6, .st), (7, .st), (2, .ef), (8, .ef), (9, .st)] mix (by kernel_rfl) (fun _ _ _ _ _ h => h) (zeros rfl) ?_)
    refine Plan.loadAll 1 rfl rfl aggV sizV rfl rfl rfl ?_
    refine Plan.loadAll 0 rfl rfl aggV sizV rfl rfl rfl ?_
    refine Plan.loadAll 1 rfl rfl aggV sizV rfl rfl rfl ?_
    refine Plan.move (v := .slice _ _ _) rfl rfl rfl ?_
    refine Plan.move (v := .int _ _) rfl rfl rfl ?_
    refine Plan.indexN (extAt ps d g) rfl rfl slV sizV rfl rfl rfl rfl (hlt2) ?_
    refine Plan.loadAgg rfl rfl aggV sizV rfl (Sees.rd hp rfl (extAt ps d g) hlt2) rfl ?_
    refine Plan.callF [] 0 rfl rfl rfl (.inl rfl) (by simp) (fun w hm => dot_ct _ _ _ _ w (hd.mono (by omega)) ((hbd _ (List.getElem_mem hlt)).mono (by omega))) ?_   -- tinplate/convex.dot
    rintro v Ln ⟨rfl, rfl⟩
    refine Plan.callF [] 0 rfl rfl rfl (.inl rfl) (by simp) (fun w hm => dot_ct _ _ _ _ w (hd.mono (by omega)) ((hbd _ (List.getElem_mem hlt2)).mono (by omega))) ?_   -- tinplate/convex.dot
    rintro v Ln ⟨rfl, rfl⟩
    refine Plan.cmp2 rfl rfl rfl rfl rfl (fun h25 => ?_) (fun h25 => ?_)
    · replace h25 := of_decide_eq_true h25
      have he : extAt ps d (g + 1) = g := by rw [hun]; exact if_pos h25
      refine Plan.done ?_
      refine HW.cond_true rfl ?_
      refine HW.region [(0, .st), (1, .st)] rfl rfl ?_
      refine Plan.move (v := .int _ _) rfl rfl rfl ?_
      refine Plan.assign (v := .int _ _) rfl rfl rfl ?_
      refine Plan.done ?_
      refine HW.region [(0, .st), (1, .st)] rfl rfl ?_
      refine Plan.arithI rfl rfl rfl rfl rfl (by omega) ?_
      refine Plan.move (v := .int _ _) rfl rfl rfl ?_
      refine Plan.done ?_
      exact ⟨g + 1, by simp only; omega, hlt, rfl, Ent.sub (.cons _ (.refl _)), (by repeat (first | exact Agree.havoc _ _ _ | refine Agree.updN ?_ | refine Agree.upd rfl ?_ | refine Agree.updL rfl ?_ | refine Agree.havoc2 rfl ?_)), ⟨rfl, by rw [he]; rfl, trivial⟩⟩
    · replace h25 := of_decide_eq_false h25
      have he : extAt ps d (g + 1) = extAt ps d g := by rw [hun]; exact if_neg h25
      refine Plan.done ?_
      refine HW.cond_false rfl ?_
      refine HW.skip ?_
      refine HW.region [(0, .st), (1, .st)] rfl rfl ?_
      refine Plan.arithI rfl rfl rfl rfl rfl (by omega) ?_
      refine Plan.move (v := .int _ _) rfl rfl rfl ?_
      refine Plan.done ?_
      exact ⟨g + 1, by simp only; omega, hlt, rfl, Ent.sub (.cons _ (.refl _)), (by repeat (first | exact Agree.havoc _ _ _ | refine Agree.updN ?_ | refine Agree.upd rfl ?_ | refine Agree.updL rfl ?_ | refine Agree.havoc2 rfl ?_)), ⟨rfl, by rw [he]; rfl, trivial⟩⟩
  · replace h12 := of_decide_eq_false h12
    have hge : g = ps.length := by omega
    subst hge
    have hel := extAt_lt ps d ps.length
    have hlt2 : extAt ps d ps.length < ps.length := by omega
    refine Plan.done ?_
    refine HW.seq ?_
    refine HW.cond_false rfl ?_
    refine HW.exit ?_
    refine HW.seq (HW.region_any [] [(0, .st), (1, .st), (2, .st), (3, .st), (4, .st), (6, .st), (5, .ef), (7, .st), (8, .st)] mix (by kernel_rfl) (fun _ _ _ _ _ h => h) (zeros rfl) ?_)
    refine Plan.loadAll 0 rfl rfl aggV sizV rfl rfl rfl ?_
    refine Plan.move (v := .slice _ _ _) rfl rfl rfl ?_
    refine Plan.move (v := .int _ _) rfl rfl rfl ?_
    refine Plan.indexN (extAt ps d ps.length) rfl rfl slV sizV rfl rfl rfl rfl (hlt2) ?_
    refine Plan.loadAgg rfl rfl aggV sizV rfl (Sees.rd hp rfl (extAt ps d ps.length) hlt2) rfl ?_
    refine Plan.move (v := .int _ _) rfl rfl rfl ?_
    refine Plan.callF [] 0 rfl rfl rfl (.inl rfl) (by simp) (fun w hm => dot_ct _ _ _ _ w (hd.mono (by omega)) ((hbd _ (List.getElem_mem hlt2)).mono (by omega))) ?_   -- tinplate/convex.dot
    rintro v Ln ⟨rfl, rfl⟩
    refine Plan.assign (v := .int _ _) rfl rfl rfl ?_
    refine Plan.assign (v := .int _ _) rfl rfl rfl ?_
    refine Plan.done ?_
    exact HW.ret ⟨rfl, _, [], .tmp rfl (.tmp rfl .nil), List.nil_sublist _, (by rw [extF, nth_get hlt2]; rfl), rfl⟩

def ExtF (ps : List Pt) (d : Pt) : Int × Int × Int := if validF ps && okB d.1 d.2 && !decide (d = (0, 0)) then ((extF ps d).1, (extF ps d).2, 0) else (0, 0, 2)

theorem Extreme_ct (A : Option Addr) (ps : List Pt) (d : Pt) (n c : Nat) (w : World) (hp : Rd enc 2 w A ps) (hn : n = ps.length) (hlen : ps.length ≤ 1000000) :
    Ct P 18 #[.slice A n c, vc d] w [] (fun r L => r = .tuple #[int (ExtF ps d).1, int (ExtF ps d).2.1, int (ExtF ps d).2.2] ∧ L = []) := by
  subst hn
  refine Ct.of_body (rs := [.tmp 4, .tmp 5, .tmp 6]) (N := 30) (L := []) Try.func18 rfl rfl rfl (by kernel_rfl) rfl (Mem.refl w) ?_
  refine HW.seq (HW.region [(0, .ef), (1, .st), (2, .st), (3, .st)] rfl rfl ?_)
  refine Plan.boxA rfl rfl rfl fun b3 => ?_
  refine Plan.assign (v := .int _ _) rfl rfl rfl ?_
  refine Plan.assign (v := .int _ _) rfl rfl rfl ?_
  refine Plan.assign (v := .int _ _) rfl rfl rfl ?_
  refine Plan.done ?_
  refine HW.seq ?_
  refine HW.seq (HW.region [(0, .st), (1, .ef), (2, .st), (3, .st), (4, .st), (5, .ef), (6, .st), (7, .st), (8, .st), (9, .st), (10, .st), (11, .st), (12, .st)] rfl rfl ?_)
  refine Plan.move (v := .slice _ _ _) rfl rfl rfl ?_
  refine Plan.callF [] 0 rfl rfl rfl (.inl rfl) (by simp) (fun w hm => Valid_ct A ps c _ w (hp.mem hm) rfl (by omega)) ?_   -- tinplate/convex.Valid
  rintro v Ln ⟨rfl, rfl⟩
  refine Plan.splitB (fun h10 => ?_) (fun h10 => ?_)
  · skip
    obtain ⟨v1, v2, v3, v4⟩ := validF_spec h10
    refine Plan.not rfl rfl rfl ?_
    refine Plan.move (v := .bool _) rfl rfl rfl ?_
    refine Plan.loadAll 0 rfl rfl aggV sizV rfl rfl rfl ?_
    refine Plan.callF [] 0 rfl rfl rfl (.inl rfl) (by simp) (fun w hm => valid_ct d.1 d.2 w) ?_   -- tinplate/convex.valid
    rintro v Ln ⟨rfl, rfl⟩
    refine Plan.splitB (fun h14 => ?_) (fun h14 => ?_)
    · skip
      have hb := okB_bd h14
      refine Plan.not rfl rfl rfl ?_
      refine Plan.pick (v := .bool _) rfl rfl rfl rfl ?_
      refine Plan.move (v := .bool _) rfl rfl rfl ?_
      refine Plan.loadAll 0 rfl rfl aggV sizV rfl rfl rfl ?_
      refine Plan.build rfl rfl rfl (bld0) ?_
      refine Plan.eqV d (0, 0) rfl rfl rfl rfl rfl (fun h20 => ?_) (fun h20 => ?_)
      · skip
        refine Plan.pick (v := .bool _) rfl rfl rfl rfl ?_
        refine Plan.done ?_
        refine HW.cond_true rfl ?_
        refine HW.seq (HW.region [(0, .st), (1, .st), (2, .st)] rfl rfl ?_)
        refine Plan.assign (v := .int _ _) rfl rfl rfl ?_
        refine Plan.assign (v := .int _ _) rfl rfl rfl ?_
        refine Plan.assign (v := .int _ _) rfl rfl rfl ?_
        refine Plan.done ?_
        exact HW.ret ⟨rfl, _, [], .tmp rfl (.tmp rfl (.tmp rfl .nil)), List.nil_sublist _, (by rw [ExtF, if_neg (by rw [h20]; simp)]; rfl), rfl⟩
      · skip
        obtain ⟨ad, rfl, _⟩ := hp 0 (by omega)
        refine Plan.pick (v := .bool _) rfl rfl rfl rfl ?_
        refine Plan.done ?_
        refine HW.cond_false rfl ?_
        refine HW.skip ?_
        refine HW.seq (HW.region [(0, .st), (1, .st), (2, .ef), (3, .st), (4, .st), (5, .st), (6, .st), (7, .st)] rfl rfl ?_)
        refine Plan.move (v := .slice _ _ _) rfl rfl rfl ?_
        refine Plan.loadAll 0 rfl rfl aggV sizV rfl rfl rfl ?_
        refine Plan.callF [] 0 rfl rfl rfl (.inl rfl) (by simp) (fun w hm => extreme_ct ad ps d _ c w (hp.mem hm) rfl (by omega) (by omega) (fun q hq => (v3 q hq).mono (by omega)) (hb.mono (by omega))) ?_   -- tinplate/convex.extreme
        rintro v Ln ⟨rfl, rfl⟩
        refine Plan.move (v := .tuple _) rfl rfl rfl ?_
        refine Plan.extract (v := .int _ _) rfl rfl rfl rfl ?_
        refine Plan.extract (v := .int _ _) rfl rfl rfl rfl ?_
        refine Plan.assign (v := .int _ _) rfl rfl rfl ?_
        refine Plan.assign (v := .int _ _) rfl rfl rfl ?_
        refine Plan.done ?_
        refine HW.seq (HW.region [(0, .st), (1, .st), (2, .st), (3, .st), (4, .st)] rfl rfl ?_)
        refine Plan.move (v := .int _ _) rfl rfl rfl ?_
        refine Plan.move (v := .int _ _) rfl rfl rfl ?_
        refine Plan.assign (v := .int _ _) rfl rfl rfl ?_
        refine Plan.assign (v := .int _ _) rfl rfl rfl ?_
        refine Plan.assign (v := .int _ _) rfl rfl rfl ?_
        refine Plan.done ?_
        exact HW.ret ⟨rfl, _, [], .tmp rfl (.tmp rfl (.tmp rfl .nil)), List.nil_sublist _, (by rw [ExtF, if_pos (by rw [h10, h14, decide_eq_false h20]; rfl)]; rfl), rfl⟩
    · skip
      refine Plan.not rfl rfl rfl ?_
      refine Plan.pick (v := .bool _) rfl rfl rfl rfl ?_
      refine Plan.move (v := .bool _) rfl rfl rfl ?_
      refine Plan.no rfl rfl ?_
      refine Plan.no rfl rfl ?_
      refine Plan.no rfl rfl ?_
      refine Plan.pick (v := .bool _) rfl rfl rfl rfl ?_
      refine Plan.done ?_
      refine HW.cond_true rfl ?_
      refine HW.seq (HW.region [(0, .st), (1, .st), (2, .st)] rfl rfl ?_)
      refine Plan.assign (v := .int _ _) rfl rfl rfl ?_
      refine Plan.assign (v := .int _ _) rfl rfl rfl ?_
      refine Plan.assign (v := .int _ _) rfl rfl rfl ?_
      refine Plan.done ?_
      exact HW.ret ⟨rfl, _, [], .tmp rfl (.tmp rfl (.tmp rfl .nil)), List.nil_sublist _, (by rw [ExtF, if_neg (by rw [h14]; simp)]; rfl), rfl⟩
  · skip
    refine Plan.not rfl rfl rfl ?_
    refine Plan.move (v := .bool _) rfl rfl rfl ?_
    refine Plan.no rfl rfl ?_
    refine Plan.noE rfl rfl ?_
    refine Plan.no rfl rfl ?_
    refine Plan.pick (v := .bool _) rfl rfl rfl rfl ?_
    refine Plan.move (v := .bool _) rfl rfl rfl ?_
    refine Plan.no rfl rfl ?_
    refine Plan.no rfl rfl ?_
    refine Plan.no rfl rfl ?_
    refine Plan.pick (v := .bool _) rfl rfl rfl rfl ?_
    refine Plan.done ?_
    refine HW.cond_true rfl ?_
    refine HW.seq (HW.region [(0, .st), (1, .st), (2, .st)] rfl rfl ?_)
    refine Plan.assign (v := .int _ _) rfl rfl rfl ?_
    refine Plan.assign (v := .int _ _) rfl rfl rfl ?_
    refine Plan.assign (v := .int _ _) rfl rfl rfl ?_
    refine Plan.done ?_
    exact HW.ret ⟨rfl, _, [], .tmp rfl (.tmp rfl (.tmp rfl .nil)), List.nil_sublist _, (by rw [ExtF, if_neg (by rw [h10]; simp)]; rfl), rfl⟩

def gcdE (a b : Pt) : Nat := Nat.gcd (b.1 - a.1).natAbs (b.2 - a.2).natAbs
/-- the points on the boundary, as the code counts them -/
def onC (ps : List Pt) : Int := sumN (fun k => (gcdE (nth ps k) (nx ps k) : Int)) ps.length
def PointsF (ps : List Pt) : Int × Int × Int := if validF ps then ((areaC ps + 2 - onC ps).tdiv 2, onC ps, 0) else (0, 0, 2)

theorem maxI_abs (a : Int) : maxI a (-a) = (a.natAbs : Int) := by unfold maxI; split <;> omega

theorem gcdE_bd {a b : Pt} (ha : Bd2 1000 a.1 a.2) (hb : Bd2 1000 b.1 b.2) : 0 ≤ (gcdE a b : Int) ∧ (gcdE a b : Int) ≤ 4000 := by
  refine ⟨by omega, ?_⟩
  obtain ⟨⟨_, _⟩, ⟨_, _⟩⟩ := ha
  obtain ⟨⟨_, _⟩, ⟨_, _⟩⟩ := hb
  rcases Nat.eq_zero_or_pos (b.1 - a.1).natAbs with h | h
  · have : gcdE a b = (b.2 - a.2).natAbs := by unfold gcdE; rw [h, Nat.gcd_zero_left]
    omega
  · have : gcdE a b ≤ (b.1 - a.1).natAbs := Nat.gcd_le_left _ h
    omega

theorem Points_ct (A : Option Addr) (ps : List Pt) (n c : Nat) (w : World) (hp : Rd enc 2 w A ps) (hn : n = ps.length) (hlen : ps.length ≤ 1000000) :
    Ct P 12 #[.slice A n c] w [] (fun v L => v = .tuple #[int (PointsF ps).1, int (PointsF ps).2.1, int (PointsF ps).2.2] ∧ L = []) := by
  subst hn
  refine Ct.of_bodyM (rs := [.tmp 2, .tmp 3, .tmp 4]) (N := 49) (L := []) Try.func12 rfl rfl rfl (by kernel_rfl) rfl (Mem.refl w) ?_
  refine HW.seq (HW.region [(0, .st), (1, .st), (2, .st)] rfl rfl ?_)
  refine Plan.assign (v := .int _ _) rfl rfl rfl ?_
  refine Plan.assign (v := .int _ _) rfl rfl rfl ?_
  refine Plan.assign (v := .int _ _) rfl rfl rfl ?_
  refine Plan.done ?_
  refine HW.seq ?_
  refine HW.seq (HW.region [(0, .st), (1, .ef), (2, .st)] rfl rfl ?_)
  refine Plan.move (v := .slice _ _ _) rfl rfl rfl ?_
  refine Plan.callF [] 0 rfl rfl rfl (.inl rfl) (by simp) (fun w hm => Valid_ct A ps c _ w (hp.mem hm) rfl (by omega)) ?_   -- tinplate/convex.Valid
  rintro v Ln ⟨rfl, rfl⟩
  refine Plan.splitB (fun h12 => ?_) (fun h12 => ?_)
  · skip
    obtain ⟨v1, v2, v3, v4⟩ := validF_spec h12
    have hgb : ∀ j, j < ps.length → 0 ≤ (gcdE (nth ps j) (nx ps j) : Int) ∧ (gcdE (nth ps j) (nx ps j) : Int) ≤ 4000 := fun j hj => gcdE_bd (v3 _ (nth_mem hj)) (v3 _ (nx_mem hj))
    refine Plan.not rfl rfl rfl ?_
    refine Plan.done ?_
    refine HW.cond_false rfl ?_
    refine HW.skip ?_
    refine HW.seq (HW.region [(0, .al), (1, .ef)] rfl rfl ?_)
    refine Plan.alloc rfl zerI fun b5 => ?_
    refine Plan.storeI 0 rfl rfl hDn sizI rfl rfl rfl rfl ?_
    refine Plan.done ?_
    refine HW.seq ?_
    refine HW.seq (HW.region [(0, .st), (1, .ef)] rfl rfl ?_)
    refine Plan.move (v := .slice _ _ _) rfl rfl rfl ?_
    refine Plan.callF [] 0 rfl rfl rfl (.inl rfl) (by simp) (fun w hm => edges_ct A ps.length c w) ?_   -- tinplate/convex.edges
    rintro v Ln ⟨bx, rfl, rfl⟩
    refine Plan.done ?_
    refine HW.block ?_
    refine HW.rangeFunc (G := Int) (ps.length) (edgeA ps) (fun g => [Res.blk b5 #[int g] 3]) ([Res.blk bx #[.slice A ps.length c] 22]) (fun k g => g = sumN (fun k => (gcdE (nth ps k) (nx ps k) : Int)) k) (fun c g => False) (0) rfl rfl rfl (fun _ => rfl) (fun w hm => hm.perm (List.Perm.swap _ _ _)) (rfl) (fun w1 X1 hm1 hX1 => edges_seq rfl rfl hp rfl (by omega) hm1 hX1 List.mem_cons_self) (fun l k g wa wb hk hok hma hmb => ?_) (fun D g hok => ?_) (fun D c g hok => ?_)
    · skip
      refine HW.seq (HW.region [(0, .al), (1, .ef)] rfl rfl ?_)
      refine Plan.alloc rfl zerV fun b6 => ?_
      refine Plan.storeA 0 rfl rfl hDn sizV rfl rfl rfl rfl rfl rfl ?_
      refine Plan.done ?_
      refine HW.region [(0, .al), (1, .ef)] rfl rfl ?_
      refine Plan.alloc rfl zerV fun b7 => ?_
      refine Plan.storeA 0 rfl rfl hDn sizV rfl rfl rfl rfl rfl rfl ?_
      refine Plan.done ?_
      have hsb := sumN_bd (f := fun k => (gcdE (nth ps k) (nx ps k) : Int)) (M := 4000) k (fun j hj => by have := hgb j (by omega); omega)
      have hkb := hgb k hk
      rw [← hok] at hsb
      have hok0 := hok
      obtain ⟨⟨q1, q2⟩, ⟨q3, q4⟩⟩ := v3 _ (nth_mem hk)
      obtain ⟨⟨q5, q6⟩, ⟨q7, q8⟩⟩ := v3 _ (nx_mem hk)
      refine HW.block ?_
      refine HW.seq (HW.region [(0, .st), (1, .st), (2, .ef), (3, .al), (4, .ef)] rfl rfl ?_)
      refine Plan.loadAll 0 rfl rfl aggV sizV rfl rfl rfl ?_
      refine Plan.loadAll 1 rfl rfl aggV sizV rfl rfl rfl ?_
      refine Plan.callF [] 0 rfl rfl rfl (.inl rfl) (by simp) (fun w hm => minus_ct _ _ _ _ w ((v3 _ (nx_mem hk)).mono (by omega)) ((v3 _ (nth_mem hk)).mono (by omega))) ?_   -- tinplate/convex.minus
      rintro v Ln ⟨rfl, rfl⟩
      refine Plan.alloc rfl zerV fun b8 => ?_
      refine Plan.storeA 0 rfl rfl hDn sizV rfl rfl rfl rfl rfl rfl ?_
      refine Plan.done ?_
      refine HW.seq (HW.region_any [] [(0, .st), (1, .st), (2, .st), (3, .st), (4, .st), (5, .st), (6, .st), (7, .st), (8, .st), (9, .st), (10, .st), (11, .st), (12, .st), (13, .st)] mix (by kernel_rfl) (fun _ _ _ _ _ h => h) (zeros rfl) ?_)
      refine Plan.fieldAddr rfl rfl fldV0 rfl ?_
      refine Plan.load (v := .int _ _) rfl rfl aggI rfl (Sees.one 0 rfl rfl) ?_
      refine Plan.fieldAddr rfl rfl fldV0 rfl ?_
      refine Plan.load (v := .int _ _) rfl rfl aggI rfl (Sees.one 0 rfl rfl) ?_
      refine Plan.neg rfl rfl rfl (by omega) ?_
      refine Plan.max rfl rfl rfl rfl ?_
      refine Plan.fieldAddr rfl rfl fldV1 rfl ?_
      refine Plan.load (v := .int _ _) rfl rfl aggI rfl (Sees.one 0 rfl rfl) ?_
      refine Plan.fieldAddr rfl rfl fldV1 rfl ?_
      refine Plan.load (v := .int _ _) rfl rfl aggI rfl (Sees.one 0 rfl rfl) ?_
      refine Plan.neg rfl rfl rfl (by omega) ?_
      refine Plan.max rfl rfl rfl rfl ?_
      refine Plan.assign (v := .int _ _) rfl rfl rfl ?_
      refine Plan.assign (v := .int _ _) rfl rfl rfl ?_
      refine Plan.done ?_
      refine HW.seq ?_
      refine HW.block ?_
      refine HW.loopC (G := Nat × Nat) [9, 10, 33, 34, 35, 36, 37, 38] (fun g => [(9, int g.1), (10, int g.2)]) (fun g => Nat.gcd g.1 g.2 = gcdE (nth ps k) (nx ps k)) (fun g => g.2) ((((nx ps k).1 - (nth ps k).1).natAbs, ((nx ps k).2 - (nth ps k).2).natAbs)) ⟨int_eq (maxI_abs _), int_eq (maxI_abs _), trivial⟩ (rfl) (fun g F hok => ?_)
      rename_i g0 F0
      obtain ⟨x, y⟩ := g
      simp only at hok
      dsimp only
      refine HW.seq ?_
      refine HW.seq (HW.region [(0, .st), (1, .st)] rfl rfl ?_)
      refine Plan.move (v := .int _ _) rfl rfl rfl ?_
      refine Plan.cmp2 rfl rfl rfl rfl rfl (fun h34 => ?_) (fun h34 => ?_)
      · replace h34 := ne_of_t h34
        have hy0 : 0 < y := by omega
        refine Plan.done ?_
        refine HW.cond_true rfl ?_
        refine HW.skip ?_
        refine HW.block ?_
        refine HW.region_any [] [(0, .st), (1, .st), (2, .st), (3, .st), (4, .st), (5, .st)] mix (by kernel_rfl) (fun _ _ _ _ _ h => h) (zeros rfl) ?_
        refine Plan.move (v := .int _ _) rfl rfl rfl ?_
        refine Plan.move (v := .int _ _) rfl rfl rfl ?_
        refine Plan.move (v := .int _ _) rfl rfl rfl ?_
        refine Plan.rem rfl rfl rfl rfl (by omega) ?_
        refine Plan.assign (v := .int _ _) rfl rfl rfl ?_
        refine Plan.assign (v := .int _ _) rfl rfl rfl ?_
        refine Plan.done ?_
        exact ⟨(y, x % y), Nat.mod_lt _ hy0, (by simp only; rw [← hok, Nat.gcd_comm y (x % y), ← Nat.gcd_rec, Nat.gcd_comm]), rfl, Ent.sub (.refl _), (by repeat (first | exact Agree.havoc _ _ _ | refine Agree.updN ?_ | refine Agree.upd rfl ?_ | refine Agree.updL rfl ?_ | refine Agree.havoc2 rfl ?_)), ⟨rfl, int_eq (by simp), trivial⟩⟩
      · replace h34 := eq_of_f h34
        have hx : x = gcdE (nth ps k) (nx ps k) := by
          have : y = 0 := by omega
          rw [← hok, this, Nat.gcd_zero_right]
        refine Plan.done ?_
        refine HW.cond_false rfl ?_
        refine HW.exit ?_
        refine HW.region [(0, .st), (1, .st), (2, .st), (3, .ef)] rfl rfl ?_
        refine Plan.load (v := .int _ _) rfl rfl aggI rfl (Sees.one 3 rfl rfl) ?_
        refine Plan.move (v := .int _ _) rfl rfl rfl ?_
        refine Plan.arithI rfl rfl rfl rfl rfl (by omega) ?_
        refine Plan.storeI 3 rfl rfl hDn sizI rfl rfl rfl rfl ?_
        refine Plan.done ?_
        exact ⟨g0 + (x : Int), (by simp only [sumN]; rw [← F0, hx]), Ent.sub (.cons _ (.cons _ (.cons _ (.refl _))))⟩
    · skip
      have hab := sumN_bd (f := fun k => crossP (nth ps k) (nx ps k)) (M := 20000000000) ps.length (fun j hj => cross_bd ((v3 _ (nth_mem hj)).mono (by omega)) ((v3 _ (nx_mem hj)).mono (by omega)))
      have hob := sumN_bd (f := fun k => (gcdE (nth ps k) (nx ps k) : Int)) (M := 4000) ps.length (fun j hj => by have := hgb j (by omega); omega)
      rw [← hok] at hob
      have hab' : -(20000000000 * (ps.length : Int)) ≤ areaC ps ∧ areaC ps ≤ 20000000000 * ps.length := hab
      refine HW.seq (HW.region_any [] [(0, .st), (3, .st), (6, .st), (1, .ef), (2, .st), (4, .st), (5, .st), (7, .st), (8, .st), (9, .st)] mix (by kernel_rfl) (fun _ _ _ _ _ h => h) (zeros rfl) ?_)
      refine Plan.move (v := .slice _ _ _) rfl rfl rfl ?_
      refine Plan.load (v := .int _ _) rfl rfl aggI rfl (Sees.one 1 rfl rfl) ?_
      refine Plan.load (v := .int _ _) rfl rfl aggI rfl (Sees.one 1 rfl rfl) ?_
      refine Plan.callF [] 0 rfl rfl rfl (.inl rfl) (by simp) (fun w hm => area_ct A ps _ c w (hp.mem hm) rfl (by omega) (by omega) (fun q hq => (v3 q hq).mono (by omega))) ?_   -- tinplate/convex.area
      rintro v Ln ⟨rfl, rfl⟩
      refine Plan.arithI rfl rfl rfl rfl rfl (by omega) ?_
      refine Plan.arithI rfl rfl rfl rfl rfl (by omega) ?_
      refine Plan.quoT rfl rfl rfl rfl (by omega) ?_
      refine Plan.assign (v := .int _ _) rfl rfl rfl ?_
      refine Plan.assign (v := .int _ _) rfl rfl rfl ?_
      refine Plan.assign (v := .int _ _) rfl rfl rfl ?_
      refine Plan.done ?_
      exact HW.ret ⟨[D], _, [], [], rfl, Ent.sub (.cons_cons _ (List.nil_sublist _)), .tmp rfl (.tmp rfl (.tmp rfl .nil)), List.nil_sublist _, (by rw [PointsF, if_pos h12, show onC ps = g from hok.symm]; rfl), rfl⟩
    · skip
      exact absurd hok id
  · skip
    refine Plan.not rfl rfl rfl ?_
    refine Plan.done ?_
    refine HW.cond_true rfl ?_
    refine HW.seq (HW.region [(0, .st), (1, .st), (2, .st)] rfl rfl ?_)
    refine Plan.assign (v := .int _ _) rfl rfl rfl ?_
    refine Plan.assign (v := .int _ _) rfl rfl rfl ?_
    refine Plan.assign (v := .int _ _) rfl rfl rfl ?_
    refine Plan.done ?_
    exact HW.ret ⟨[], _, [], [], rfl, Ent.sub (List.nil_sublist _), .tmp rfl (.tmp rfl (.tmp rfl .nil)), List.nil_sublist _, (by rw [PointsF, if_neg (by rw [h12]; decide)]; rfl), rfl⟩

end Go.Proofs.Ytoghphikfkdkmaa.V
