/-
  Area, Place, extreme, Extreme, Points.
-/
import Derived.Test.YtjmklbkcpjmcaaaV8
namespace Go.Proofs.Ytjmklbkcpjmcaaa.V
open Go Go.RowKit Go.Proofs.Ytjmklbkcpjmcaaa.H
set_option linter.unusedVariables false
set_option linter.unusedSimpArgs false

theorem validF_spec {ps : List Pt} (h : validF ps = true) : 3 ≤ ps.length ∧ ps.length ≤ 32 ∧ (∀ q ∈ ps, Bd2 1000 q.1 q.2) ∧ hullF ps = ps := by
  simp only [validF, Bool.and_eq_true, Bool.not_eq_true', Bool.or_eq_false_iff, decide_eq_false_iff_not, decide_eq_true_eq] at h
  obtain ⟨⟨⟨h1, h2⟩, h3⟩, h4⟩ := h
  refine ⟨by omega, by omega, fun q hq => ?_, h4⟩
  have := List.any_eq_false.1 h3 q hq
  exact okB_bd (by simpa using this)

def AreaF (ps : List Pt) : Int × Int := if validF ps then (areaC ps, 0) else (0, 2)
def PlaceF (ps : List Pt) (v : Pt) : Int × Int := if validF ps && okB v.1 v.2 then (placeF ps v, 0) else (0, 2)

theorem Area_ct (A : Option Addr) (ps : List Pt) (n c : Nat) (w : World) (hp : Rd enc 2 w A ps) (hn : n = ps.length) (hlen : ps.length ≤ 1000000) :
    Ct P 36 #[.slice A n c] w [] (fun v L => v = .tuple #[int (AreaF ps).1, int (AreaF ps).2] ∧ L = []) := by
  subst hn
  refine Ct.of_body (rs := [.tmp 2, .tmp 3]) (N := 9) (L := []) Try.func36 rfl rfl rfl (by kernel_rfl) rfl (Mem.refl w) ?_
  refine HW.seq (HW.region [(0, .st), (1, .st)] rfl rfl ?_)
  refine Plan.assign (v := .int _ _) rfl rfl rfl ?_
  refine Plan.assign (v := .int _ _) rfl rfl rfl ?_
  refine Plan.done ?_
  refine HW.seq ?_
  refine HW.seq (HW.region [(0, .st), (1, .ef), (2, .st)] rfl rfl ?_)
  refine Plan.move (v := .slice _ _ _) rfl rfl rfl ?_
  refine Plan.callF [] 0 rfl rfl rfl (.inl rfl) (by simp) (fun w hm => Valid_ct A ps c _ w (hp.mem hm) rfl (by omega)) ?_   -- tinplate/convex.Valid
  rintro v Ln ⟨rfl, rfl⟩
  refine Plan.splitB (fun h5 => ?_) (fun h5 => ?_)
  · skip
    obtain ⟨v1, v2, v3, v4⟩ := validF_spec h5
    refine Plan.not rfl rfl rfl ?_
    refine Plan.done ?_
    refine HW.cond_false rfl ?_
    refine HW.skip ?_
    refine HW.seq (HW.region [(0, .st), (1, .ef), (2, .st), (3, .st)] rfl rfl ?_)
    refine Plan.move (v := .slice _ _ _) rfl rfl rfl ?_
    refine Plan.callF [] 0 rfl rfl rfl (.inl rfl) (by simp) (fun w hm => area_ct A ps _ c w (hp.mem hm) rfl (by omega) (by omega) (fun q hq => (v3 q hq).mono (by omega))) ?_   -- tinplate/convex.area
    rintro v Ln ⟨rfl, rfl⟩
    refine Plan.assign (v := .int _ _) rfl rfl rfl ?_
    refine Plan.assign (v := .int _ _) rfl rfl rfl ?_
    refine Plan.done ?_
    exact HW.ret ⟨rfl, _, [], .tmp rfl (.tmp rfl .nil), List.nil_sublist _, (by rw [AreaF, if_pos h5]; rfl), rfl⟩
  · skip
    refine Plan.not rfl rfl rfl ?_
    refine Plan.done ?_
    refine HW.cond_true rfl ?_
    refine HW.seq (HW.region [(0, .st), (1, .st)] rfl rfl ?_)
    refine Plan.assign (v := .int _ _) rfl rfl rfl ?_
    refine Plan.assign (v := .int _ _) rfl rfl rfl ?_
    refine Plan.done ?_
    exact HW.ret ⟨rfl, _, [], .tmp rfl (.tmp rfl .nil), List.nil_sublist _, (by rw [AreaF, if_neg (by rw [h5]; decide)]; rfl), rfl⟩

def dotP (a b : Pt) : Int := dotI a.1 a.2 b.1 b.2
/-- the first of the first k vertices with the most -/
def extAt (ps : List Pt) (d : Pt) : Nat → Nat
  | 0 => 0
  | k + 1 => if dotP d (nth ps k) > dotP d (nth ps (extAt ps d k)) then k else extAt ps d k
theorem extAt_lt (ps : List Pt) (d : Pt) : ∀ k, extAt ps d k = 0 ∨ extAt ps d k < k
  | 0 => .inl rfl
  | k + 1 => by
    unfold extAt
    split
    · exact .inr (Nat.lt_succ_self k)
    · exact (extAt_lt ps d k).imp id (fun h => by omega)
def extF (ps : List Pt) (d : Pt) : Int × Int := (dotP d (nth ps (extAt ps d ps.length)), (extAt ps d ps.length : Int))

theorem extreme_ct (a : Addr) (ps : List Pt) (d : Pt) (n c : Nat) (w : World) (hp : Rd enc 2 w (some a) ps) (hn : n = ps.length) (h0 : 0 < ps.length) (hlen : ps.length ≤ 1000000) (hbd : ∀ q ∈ ps, Bd2 100000 q.1 q.2) (hd : Bd2 100000 d.1 d.2) :
    Ct P 93 #[.slice (some a) n c, vc d] w [] (fun r L => r = .tuple #[int (extF ps d).1, int (extF ps d).2] ∧ L = []) := by
  subst hn
  refine Ct.of_body (rs := [.tmp 4, .tmp 5]) (N := 35) (L := []) Try.func93 rfl rfl rfl (by kernel_rfl) rfl (Mem.refl w) ?_
  refine HW.seq (HW.region [(0, .ef), (1, .st), (2, .st)] rfl rfl ?_)
  refine Plan.boxA rfl rfl rfl fun b3 => ?_
  refine Plan.assign (v := .int _ _) rfl rfl rfl ?_
  refine Plan.assign (v := .int _ _) rfl rfl rfl ?_
  refine Plan.done ?_
  refine HW.seq (HW.region [(0, .st)] rfl rfl ?_)
  refine Plan.assign (v := .int _ _) rfl rfl rfl ?_
  refine Plan.done ?_
  refine HW.seq ?_
  refine HW.seq (HW.region [(0, .st), (1, .st), (2, .st)] rfl rfl ?_)
  refine Plan.move (v := .slice _ _ _) rfl rfl rfl ?_
  refine Plan.len rfl rfl slV rfl ?_
  refine Plan.move (v := .int _ _) rfl rfl rfl ?_
  refine Plan.done ?_
  refine HW.block ?_
  refine HW.loopC (G := Nat) [6, 7, 8, 11, 12, 13, 14, 15, 16, 17, 18, 19, 20, 21, 22, 23, 24, 25, 26, 27] (fun g => [(11, int g), (6, int (extAt ps d g))]) (fun g => g ≤ ps.length) (fun g => ps.length - g) (0) ⟨rfl, rfl, trivial⟩ (Nat.zero_le _) (fun g F hok => ?_)
  refine HW.seq (HW.region [(0, .st)] rfl rfl ?_)
  refine Plan.cmp2 rfl rfl rfl rfl rfl (fun h12 => ?_) (fun h12 => ?_)
  · replace h12 := of_decide_eq_true h12
    have hlt : g < ps.length := by omega
    have hel := extAt_lt ps d g
    have hlt2 : extAt ps d g < ps.length := by omega
    have hun : extAt ps d (g + 1) = if dotP d (nth ps g) > dotP d (nth ps (extAt ps d g)) then g else extAt ps d g := rfl
    rw [nth_get hlt, nth_get hlt2] at hun
    refine Plan.done ?_
    refine HW.seq ?_
    refine HW.cond_true rfl ?_
    refine HW.skip ?_
    refine HW.seq ?_
    refine HW.block ?_
    refine HW.seq (HW.region [(0, .st), (1, .st), (2, .st), (3, .al), (4, .st), (5, .ef)] rfl rfl ?_)
    refine Plan.move (v := .int _ _) rfl rfl rfl ?_
    refine Plan.indexN (g) rfl rfl slV sizV rfl rfl rfl rfl (hlt) ?_
    refine Plan.loadAgg rfl rfl aggV sizV rfl (Sees.rd hp rfl g hlt) rfl ?_
    refine Plan.alloc rfl zerV fun b8 => ?_
    refine Plan.assign (v := .int _ _) rfl rfl rfl ?_
    refine Plan.storeA 0 rfl rfl hDn sizV rfl rfl rfl rfl rfl rfl ?_
    refine Plan.done ?_
    refine HW.seq (HW.region_any [] [(0, .st), (1, .st), (3, .st), (4, .st), (5, .st), (6, .st), (7, .st), (2, .ef), (8, .ef), (9, .st)] mix (by kernel_rfl) (fun _ _ _ _ _ h => h) (zeros rfl) ?_)
    refine Plan.loadAll 1 rfl rfl aggV sizV rfl rfl rfl ?_
    refine Plan.loadAll 0 rfl rfl aggV sizV rfl rfl rfl ?_
    refine Plan.loadAll 1 rfl rfl aggV sizV rfl rfl rfl ?_
    refine Plan.move (v := .slice _ _ _) rfl rfl rfl ?_
    refine Plan.move (v := .int _ _) rfl rfl rfl ?_
    refine Plan.indexN (extAt ps d g) rfl rfl slV sizV rfl rfl rfl rfl (hlt2) ?_
    refine Plan.loadAgg rfl rfl aggV sizV rfl (Sees.rd hp rfl (extAt ps d g) hlt2) rfl ?_
    refine Plan.callF [] 0 rfl rfl rfl (.inl rfl) (by simp) (fun w hm => dot_ct _ _ _ _ w (hd.mono (by omega)) ((hbd _ (List.getElem_mem hlt)).mono (by omega))) ?_   -- tinplate/convex.dot
    rintro v Ln ⟨rfl, rfl⟩
    refine Plan.callF [] 0 rfl rfl rfl (.inl rfl) (by simp) (fun w hm => dot_ct _ _ _ _ w (hd.mono (by omega)) ((hbd _ (List.getElem_mem hlt2)).mono (by omega))) ?_   -- tinplate/convex.dot
    rintro v Ln ⟨rfl, rfl⟩
    refine Plan.cmp2 rfl rfl rfl rfl rfl (fun h25 => ?_) (fun h25 => ?_)
    · replace h25 := of_decide_eq_true h25
      have he : extAt ps d (g + 1) = g := by rw [hun]; exact if_pos h25
      refine Plan.done ?_
      refine HW.cond_true rfl ?_
      refine HW.region [(0, .st), (1, .st)] rfl rfl ?_
      refine Plan.move (v := .int _ _) rfl rfl rfl ?_
      refine Plan.assign (v := .int _ _) rfl rfl rfl ?_
      refine Plan.done ?_
      refine HW.region [(0, .st), (1, .st)] rfl rfl ?_
      refine Plan.arithI rfl rfl rfl rfl rfl (by omega) ?_
      refine Plan.move (v := .int _ _) rfl rfl rfl ?_
      refine Plan.done ?_
      exact ⟨g + 1, by simp only; omega, hlt, rfl, Ent.sub (.cons _ (.refl _)), (by repeat (first | exact Agree.havoc _ _ _ | refine Agree.updN ?_ | refine Agree.upd rfl ?_ | refine Agree.updL rfl ?_ | refine Agree.havoc2 rfl ?_)), ⟨rfl, by rw [he]; rfl, trivial⟩⟩
    · replace h25 := of_decide_eq_false h25
      have he : extAt ps d (g + 1) = extAt ps d g := by rw [hun]; exact if_neg h25
      refine Plan.done ?_
      refine HW.cond_false rfl ?_
      refine HW.skip ?_
      refine HW.region [(0, .st), (1, .st)] rfl rfl ?_
      refine Plan.arithI rfl rfl rfl rfl rfl (by omega) ?_
      refine Plan.move (v := .int _ _) rfl rfl rfl ?_
      refine Plan.done ?_
      exact ⟨g + 1, by simp only; omega, hlt, rfl, Ent.sub (.cons _ (.refl _)), (by repeat (first | exact Agree.havoc _ _ _ | refine Agree.updN ?_ | refine Agree.upd rfl ?_ | refine Agree.updL rfl ?_ | refine Agree.havoc2 rfl ?_)), ⟨rfl, by rw [he]; rfl, trivial⟩⟩
  · replace h12 := of_decide_eq_false h12
    have hge : g = ps.length := by omega
    subst hge
    have hel := extAt_lt ps d ps.length
    have hlt2 : extAt ps d ps.length < ps.length := by omega
    refine Plan.done ?_
    refine HW.seq ?_
    refine HW.cond_false rfl ?_
    refine HW.exit ?_
    refine HW.seq (HW.region_any [] [(0, .st), (1, .st), (2, .st), (3, .st), (4, .st), (6, .st), (5, .ef), (7, .st), (8, .st)] mix (by kernel_rfl) (fun _ _ _ _ _ h => h) (zeros rfl) ?_)
    refine Plan.loadAll 0 rfl rfl aggV sizV rfl rfl rfl ?_
    refine Plan.move (v := .slice _ _ _) rfl rfl rfl ?_
    refine Plan.move (v := .int _ _) rfl rfl rfl ?_
    refine Plan.indexN (extAt ps d ps.length) rfl rfl slV sizV rfl rfl rfl rfl (hlt2) ?_
    refine Plan.loadAgg rfl rfl aggV sizV rfl (Sees.rd hp rfl (extAt ps d ps.length) hlt2) rfl ?_
    refine Plan.move (v := .int _ _) rfl rfl rfl ?_
    refine Plan.callF [] 0 rfl rfl rfl (.inl rfl) (by simp) (fun w hm => dot_ct _ _ _ _ w (hd.mono (by omega)) ((hbd _ (List.getElem_mem hlt2)).mono (by omega))) ?_   -- tinplate/convex.dot
    rintro v Ln ⟨rfl, rfl⟩
    refine Plan.assign (v := .int _ _) rfl rfl rfl ?_
    refine Plan.assign (v := .int _ _) rfl rfl rfl ?_
    refine Plan.done ?_
    exact HW.ret ⟨rfl, _, [], .tmp rfl (.tmp rfl .nil), List.nil_sublist _, (by rw [extF, nth_get hlt2]; rfl), rfl⟩

def ExtF (ps : List Pt) (d : Pt) : Int × Int × Int := if validF ps && okB d.1 d.2 && !decide (d = (0, 0)) then ((extF ps d).1, (extF ps d).2, 0) else (0, 0, 2)

def gcdE (a b : Pt) : Nat := Nat.gcd (b.1 - a.1).natAbs (b.2 - a.2).natAbs
/-- the points on the boundary, as the code counts them -/
def onC (ps : List Pt) : Int := sumN (fun k => (gcdE (nth ps k) (nx ps k) : Int)) ps.length
def PointsF (ps : List Pt) : Int × Int × Int := if validF ps then ((areaC ps + 2 - onC ps).tdiv 2, onC ps, 0) else (0, 0, 2)

theorem maxI_abs (a : Int) : maxI a (-a) = (a.natAbs : Int) := by unfold maxI; split <;> omega

theorem gcdE_bd {a b : Pt} (ha : Bd2 1000 a.1 a.2) (hb : Bd2 1000 b.1 b.2) : 0 ≤ (gcdE a b : Int) ∧ (gcdE a b : Int) ≤ 4000 := by
  refine ⟨by omega, ?_⟩
  obtain ⟨⟨_, _⟩, ⟨_, _⟩⟩ := ha
  obtain ⟨⟨_, _⟩, ⟨_, _⟩⟩ := hb
  rcases Nat.eq_zero_or_pos (b.1 - a.1).natAbs with h | h
  · have : gcdE a b = (b.2 - a.2).natAbs := by unfold gcdE; rw [h, Nat.gcd_zero_left]
    omega
  · have : gcdE a b ≤ (b.1 - a.1).natAbs := Nat.gcd_le_left _ h
    omega

end Go.Proofs.Ytjmklbkcpjmcaaa.V
