/-
  BlankArea, its contract.
-/
import Derived.Test.YtjmklbkcpjmcaaaA1
import Derived.Test.YtjmklbkcpjmcaaaV14
import Derived.Test.YtjmklbkcpjmcaaaBa
namespace Go.Proofs.Ytjmklbkcpjmcaaa.V
open Go Go.RowKit Go.Proofs.Ytjmklbkcpjmcaaa.H Go.Proofs.Ytjmklbkcpjmcaaa.LL
set_option linter.unusedVariables false
set_option linter.unusedSimpArgs false

theorem madeL_len (S : List Pt) : (madeL S).length ≤ S.length := by
  unfold madeL
  split
  · exact Nat.le_refl _
  · exact Nat.zero_le _

/-- what the law asks of an admissible grid -/
theorem area_facts {p : List Pt} (hb : blankF p = true) {x y z : Int} (hg : goodG (x, y, z) = true) (hadm : admB p (x, y, z) = true) :
    ∃ (q T : List Pt) (e a1 a2 e2 : Int), FlipF p = (q, 0) ∧ SumF p q = (T, e) ∧ AreaF p = (a1, 0) ∧ AreaF T = (a2, e2) ∧ a1 ≤ 2 * (x * z) ∧ (e = 8 ∨ e = 0 ∧ e2 = 0 ∧ a2 ≤ 8 * (x * z)) ∧ q.length ≤ 1000 ∧ T.length ≤ 1000 := by
  have hv := (blankF_spec hb).1
  obtain ⟨hm, vo⟩ := flip_spec hv
  obtain ⟨v1, v2, v3, v4⟩ := validF_spec hv
  obtain ⟨x1, x2, z1, z2, y1, y2⟩ := of_decide_eq_true hg
  simp only at x1 x2 z1 z2 y1 y2
  have hA1 : AreaF p = (areaC p, 0) := by rw [AreaF, if_pos hv]
  have hFl : FlipF p = (hullF (p.map vNeg), 0) := by rw [FlipF, if_pos hv]
  have hSu : SumF p (hullF (p.map vNeg)) = (madeL (sumF p (hullF (p.map vNeg))), madeE (sumF p (hullF (p.map vNeg)))) := by rw [SumF, if_pos (by rw [hv, vo]; rfl)]
  have hlq := hm.len
  have sp := valid_sr hv
  have sq := valid_sr vo
  generalize hqq : hullF (p.map vNeg) = q at *
  have hS := sum_spec sp sq
  have hmem : ∀ s ∈ sumF p q, ∃ a ∈ p, ∃ b ∈ p, s = sb a b := fun s hs => by
    obtain ⟨a, b, ha, hb2, rfl⟩ := hS.mem sp sq hs
    obtain ⟨c, hc, rfl⟩ := (hm.mem b).1 hb2
    refine ⟨a, ha, c, hc, ?_⟩
    unfold ad sb vNeg
    exact Prod.ext (by simp only; omega) (by simp only; omega)
  have hok : (sumF p q).any (fun s => !okB s.1 s.2) = false := by
    refine List.any_eq_false.2 fun s hs => ?_
    obtain ⟨a, ha, b, hb2, rfl⟩ := hmem s hs
    have h1 := blank_bd hb ha
    have h2 := blank_bd hb hb2
    have h3 : okB (sb a b).1 (sb a b).2 = true := by
      have e1 : (sb a b).1 = a.1 - b.1 := rfl
      have e2 : (sb a b).2 = a.2 - b.2 := rfl
      rw [e1, e2]
      exact decide_eq_true (by omega)
    rw [h3]
    decide
  have hTl := madeL_len (sumF p q)
  have hFl2 := sumF_len p q
  have hone := area_one hb (show 0 < x by omega) (show 0 < z by omega) hadm
  refine ⟨q, madeL (sumF p q), madeE (sumF p q), areaC p, (AreaF (madeL (sumF p q))).1, (AreaF (madeL (sumF p q))).2, hFl, hSu, hA1, rfl, hone, ?_, by omega, by omega⟩
  by_cases h32 : 32 < (sumF p q).length
  · left
    unfold madeE
    rw [hok, if_neg (by decide), if_pos h32]
  · right
    have h0 : madeE (sumF p q) = 0 := by
      unfold madeE
      rw [hok, if_neg (by decide), if_neg h32]
    have hL : madeL (sumF p q) = sumF p q := by rw [madeL, if_pos h0]
    have hvS : validF (sumF p q) = true := valid_of_sr hS.sr (by omega) hok
    rw [hL, h0, AreaF, if_pos hvS]
    exact ⟨rfl, rfl, area_two hb (by omega) (by omega) hadm hS.sr (by omega) hmem⟩

theorem Area_far (A : Option Addr) (p : List Pt) (n c : Nat) (x y z : Int) (w : World) (hn : n = p.length) (h60 : ¬ p.length ≤ 60) :
    Ct P 13 #[.slice A n c, gdv x y z] w [] (fun r L => r = .bool true ∧ L = []) := by
  subst hn
  refine Ct.of_body (rs := [.tmp 4]) (N := 99) (L := []) Try.func13 rfl rfl rfl (by kernel_rfl) rfl (Mem.refl w) ?_
  refine HW.seq (HW.region [(0, .ef), (1, .st)] rfl rfl ?_)
  refine Plan.boxA rfl rfl rfl fun b3 => ?_
  refine Plan.assign (v := .bool _) rfl rfl rfl ?_
  refine Plan.done ?_
  refine HW.seq ?_
  refine HW.seq (HW.region [(0, .st), (1, .ef), (2, .st)] rfl rfl ?_)
  refine Plan.move (v := .slice _ _ _) rfl rfl rfl ?_
  refine Plan.callF [] 0 rfl rfl rfl (.inl rfl) (by simp) (fun w hm => few_ct A p _ c w rfl) ?_   -- tinplate/tinplatelaw04.few
  rintro v Ln ⟨rfl, rfl⟩
  refine Plan.splitB (fun h16 => ?_) (fun h16 => ?_)
  · skip
    exact absurd (of_decide_eq_true h16) h60
  · skip
    refine Plan.not rfl rfl rfl ?_
    refine Plan.done ?_
    refine HW.cond_true rfl ?_
    refine HW.seq (HW.region [(0, .ef), (1, .st)] rfl rfl ?_)
    refine Plan.callF [] 0 rfl rfl rfl (.inl rfl) (by simp) (fun w hm => alive_ct w) ?_   -- tinplate/tinplatelaw04.alive
    rintro v Ln ⟨rfl, rfl⟩
    refine Plan.splitB (fun h18 => ?_) (fun h18 => ?_)
    · skip
      refine Plan.assign (v := .bool _) rfl rfl rfl ?_
      refine Plan.done ?_
      exact HW.ret ⟨rfl, _, [], .tmp rfl .nil, List.nil_sublist _, rfl, rfl⟩
    · skip
      exact absurd h18 (by decide)

theorem Area_no (A : Option Addr) (p : List Pt) (n c : Nat) (x y z : Int) (w : World) (hp : Rd enc 2 w A p) (hn : n = p.length) (h60 : p.length ≤ 60) (hb : (blankF p && goodG (x, y, z)) = false) :
    Ct P 13 #[.slice A n c, gdv x y z] w [] (fun r L => r = .bool true ∧ L = []) := by
  subst hn
  have hF : AdmissibleF p (x, y, z) = (false, 2) := by rw [AdmissibleF, if_neg (by rw [hb]; decide)]
  refine Ct.of_body (rs := [.tmp 4]) (N := 99) (L := []) Try.func13 rfl rfl rfl (by kernel_rfl) rfl (Mem.refl w) ?_
  refine HW.seq (HW.region [(0, .ef), (1, .st)] rfl rfl ?_)
  refine Plan.boxA rfl rfl rfl fun b3 => ?_
  refine Plan.assign (v := .bool _) rfl rfl rfl ?_
  refine Plan.done ?_
  refine HW.seq ?_
  refine HW.seq (HW.region [(0, .st), (1, .ef), (2, .st)] rfl rfl ?_)
  refine Plan.move (v := .slice _ _ _) rfl rfl rfl ?_
  refine Plan.callF [] 0 rfl rfl rfl (.inl rfl) (by simp) (fun w hm => few_ct A p _ c w rfl) ?_   -- tinplate/tinplatelaw04.few
  rintro v Ln ⟨rfl, rfl⟩
  refine Plan.splitB (fun h16 => ?_) (fun h16 => ?_)
  · skip
    refine Plan.not rfl rfl rfl ?_
    refine Plan.done ?_
    refine HW.cond_false rfl ?_
    refine HW.skip ?_
    refine HW.seq (HW.region [(0, .st), (1, .st), (2, .ef), (3, .st), (4, .st), (5, .st), (6, .st), (7, .st)] rfl rfl ?_)
    refine Plan.move (v := .slice _ _ _) rfl rfl rfl ?_
    refine Plan.loadAll 0 rfl rfl aggGrid sizGrid rfl rfl rfl ?_
    refine Plan.callF [] 0 rfl rfl rfl (.inl rfl) (by simp) (fun w hm => (by have h5 := Admissible_ct A p p.length c x y z w (hp.mem hm) rfl (by omega); rw [hF] at h5; exact h5)) ?_   -- tinplate/blank.Admissible
    rintro v Ln ⟨rfl, rfl⟩
    refine Plan.move (v := .tuple _) rfl rfl rfl ?_
    refine Plan.extract (v := .bool _) rfl rfl rfl rfl ?_
    refine Plan.extract (v := .int _ _) rfl rfl rfl rfl ?_
    refine Plan.assign (v := .bool _) rfl rfl rfl ?_
    refine Plan.assign (v := .int _ _) rfl rfl rfl ?_
    refine Plan.done ?_
    refine HW.seq ?_
    refine HW.seq (HW.region [(0, .st), (1, .st), (2, .st), (3, .st), (4, .st), (5, .st)] rfl rfl ?_)
    refine Plan.move (v := .int _ _) rfl rfl rfl ?_
    refine Plan.cmp2 rfl rfl rfl rfl rfl (fun h26 => ?_) (fun h26 => ?_)
    · replace h26 := ne_of_t h26
      refine Plan.move (v := .bool _) rfl rfl rfl ?_
      refine Plan.no rfl rfl ?_
      refine Plan.no rfl rfl ?_
      refine Plan.pick (v := .bool _) rfl rfl rfl rfl ?_
      refine Plan.done ?_
      refine HW.cond_true rfl ?_
      refine HW.seq (HW.region [(0, .st), (1, .st), (2, .st), (3, .st), (4, .st), (5, .st), (6, .st), (7, .ef), (8, .st), (9, .st)] rfl rfl ?_)
      refine Plan.move (v := .int _ _) rfl rfl rfl ?_
      refine Plan.cmp2 rfl rfl rfl rfl rfl (fun h32 => ?_) (fun h32 => ?_)
      · replace h32 := of_decide_eq_true h32
        exact absurd h32 (by decide)
      · replace h32 := of_decide_eq_false h32
        refine Plan.move (v := .bool _) rfl rfl rfl ?_
        refine Plan.move (v := .int _ _) rfl rfl rfl ?_
        refine Plan.cmp2 rfl rfl rfl rfl rfl (fun h35 => ?_) (fun h35 => ?_)
        · replace h35 := of_decide_eq_true h35
          refine Plan.pick (v := .bool _) rfl rfl rfl rfl ?_
          refine Plan.move (v := .bool _) rfl rfl rfl ?_
          refine Plan.callF [] 0 rfl rfl rfl (.inl rfl) (by simp) (fun w hm => alive_ct w) ?_   -- tinplate/tinplatelaw04.alive
          rintro v Ln ⟨rfl, rfl⟩
          refine Plan.splitB (fun h38 => ?_) (fun h38 => ?_)
          · skip
            refine Plan.pick (v := .bool _) rfl rfl rfl rfl ?_
            refine Plan.assign (v := .bool _) rfl rfl rfl ?_
            refine Plan.done ?_
            exact HW.ret ⟨rfl, _, [], .tmp rfl .nil, List.nil_sublist _, rfl, rfl⟩
          · skip
            exact absurd h38 (by decide)
        · replace h35 := of_decide_eq_false h35
          exact absurd rfl h35
    · replace h26 := eq_of_f h26
      exact absurd h26 (by decide)
  · skip
    exact absurd h60 (of_decide_eq_false h16)

theorem Area_nadm (A : Option Addr) (p : List Pt) (n c : Nat) (x y z : Int) (w : World) (hp : Rd enc 2 w A p) (hn : n = p.length) (h60 : p.length ≤ 60) (hb : blankF p = true) (hg : goodG (x, y, z) = true) (hadm : admB p (x, y, z) = false) :
    Ct P 13 #[.slice A n c, gdv x y z] w [] (fun r L => r = .bool true ∧ L = []) := by
  subst hn
  refine Ct.of_body (rs := [.tmp 4]) (N := 99) (L := []) Try.func13 rfl rfl rfl (by kernel_rfl) rfl (Mem.refl w) ?_
  refine HW.seq (HW.region [(0, .ef), (1, .st)] rfl rfl ?_)
  refine Plan.boxA rfl rfl rfl fun b3 => ?_
  refine Plan.assign (v := .bool _) rfl rfl rfl ?_
  refine Plan.done ?_
  refine HW.seq ?_
  refine HW.seq (HW.region [(0, .st), (1, .ef), (2, .st)] rfl rfl ?_)
  refine Plan.move (v := .slice _ _ _) rfl rfl rfl ?_
  refine Plan.callF [] 0 rfl rfl rfl (.inl rfl) (by simp) (fun w hm => few_ct A p _ c w rfl) ?_   -- tinplate/tinplatelaw04.few
  rintro v Ln ⟨rfl, rfl⟩
  refine Plan.splitB (fun h16 => ?_) (fun h16 => ?_)
  · skip
    refine Plan.not rfl rfl rfl ?_
    refine Plan.done ?_
    refine HW.cond_false rfl ?_
    refine HW.skip ?_
    refine HW.seq (HW.region [(0, .st), (1, .st), (2, .ef), (3, .st), (4, .st), (5, .st), (6, .st), (7, .st)] rfl rfl ?_)
    refine Plan.move (v := .slice _ _ _) rfl rfl rfl ?_
    refine Plan.loadAll 0 rfl rfl aggGrid sizGrid rfl rfl rfl ?_
    refine Plan.callF [] 0 rfl rfl rfl (.inl rfl) (by simp) (fun w hm => (by have h5 := Admissible_ok A p p.length c x y z w (hp.mem hm) rfl (by omega) hb hg; rw [hadm] at h5; exact h5)) ?_   -- tinplate/blank.Admissible
    rintro v Ln ⟨rfl, rfl⟩
    refine Plan.move (v := .tuple _) rfl rfl rfl ?_
    refine Plan.extract (v := .bool _) rfl rfl rfl rfl ?_
    refine Plan.extract (v := .int _ _) rfl rfl rfl rfl ?_
    refine Plan.assign (v := .bool _) rfl rfl rfl ?_
    refine Plan.assign (v := .int _ _) rfl rfl rfl ?_
    refine Plan.done ?_
    refine HW.seq ?_
    refine HW.seq (HW.region [(0, .st), (1, .st), (2, .st), (3, .st), (4, .st), (5, .st)] rfl rfl ?_)
    refine Plan.move (v := .int _ _) rfl rfl rfl ?_
    refine Plan.cmp2 rfl rfl rfl rfl rfl (fun h26 => ?_) (fun h26 => ?_)
    · replace h26 := ne_of_t h26
      exact absurd rfl h26
    · replace h26 := eq_of_f h26
      refine Plan.move (v := .bool _) rfl rfl rfl ?_
      refine Plan.move (v := .bool _) rfl rfl rfl ?_
      refine Plan.not rfl rfl rfl ?_
      refine Plan.pick (v := .bool _) rfl rfl rfl rfl ?_
      refine Plan.done ?_
      refine HW.cond _ rfl (fun hc => ?_) (fun hc => ?_)
      · skip
        refine HW.seq (HW.region [(0, .st), (1, .st), (2, .st), (3, .st), (4, .st), (5, .st), (6, .st), (7, .ef), (8, .st), (9, .st)] rfl rfl ?_)
        refine Plan.move (v := .int _ _) rfl rfl rfl ?_
        refine Plan.cmp2 rfl rfl rfl rfl rfl (fun h32 => ?_) (fun h32 => ?_)
        · replace h32 := of_decide_eq_true h32
          refine Plan.move (v := .bool _) rfl rfl rfl ?_
          refine Plan.no rfl rfl ?_
          refine Plan.no rfl rfl ?_
          refine Plan.pick (v := .bool _) rfl rfl rfl rfl ?_
          refine Plan.move (v := .bool _) rfl rfl rfl ?_
          refine Plan.callF [] 0 rfl rfl rfl (.inl rfl) (by simp) (fun w hm => alive_ct w) ?_   -- tinplate/tinplatelaw04.alive
          rintro v Ln ⟨rfl, rfl⟩
          refine Plan.splitB (fun h38 => ?_) (fun h38 => ?_)
          · skip
            refine Plan.pick (v := .bool _) rfl rfl rfl rfl ?_
            refine Plan.assign (v := .bool _) rfl rfl rfl ?_
            refine Plan.done ?_
            exact HW.ret ⟨rfl, _, [], .tmp rfl .nil, List.nil_sublist _, rfl, rfl⟩
          · skip
            exact absurd h38 (by decide)
        · replace h32 := of_decide_eq_false h32
          exact absurd rfl h32
      · skip
        exact absurd hc (by decide)
  · skip
    exact absurd h60 (of_decide_eq_false h16)

theorem Area_ok (A : Option Addr) (p : List Pt) (n c : Nat) (x y z : Int) (w : World) (hp : Rd enc 2 w A p) (hn : n = p.length) (h60 : p.length ≤ 60) (hb : blankF p = true) (hg : goodG (x, y, z) = true) (hadm : admB p (x, y, z) = true) :
    Ct P 13 #[.slice A n c, gdv x y z] w [] (fun r L => r = .bool true ∧ L = []) := by
  subst hn
  obtain ⟨q, T, e, a1, a2, e2, hFl, hSu, hA1, hA2, k1, k2, lq, lT⟩ := area_facts hb hg hadm
  obtain ⟨x1, x2, z1, z2, y1, y2⟩ := of_decide_eq_true hg
  simp only at x1 x2 z1 z2 y1 y2
  have q1 := mul_bd (a := x) (b := z) (N := 400) (M := 400) (by omega) (by omega)
  have q2 : 2 * x * z = 2 * (x * z) := Int.mul_assoc _ _ _
  have q3 : 8 * x * z = 8 * (x * z) := Int.mul_assoc _ _ _
  refine Ct.of_body (rs := [.tmp 4]) (N := 99) (L := []) Try.func13 rfl rfl rfl (by kernel_rfl) rfl (Mem.refl w) ?_
  refine HW.seq (HW.region [(0, .ef), (1, .st)] rfl rfl ?_)
  refine Plan.boxA rfl rfl rfl fun b3 => ?_
  refine Plan.assign (v := .bool _) rfl rfl rfl ?_
  refine Plan.done ?_
  refine HW.seq ?_
  refine HW.seq (HW.region [(0, .st), (1, .ef), (2, .st)] rfl rfl ?_)
  refine Plan.move (v := .slice _ _ _) rfl rfl rfl ?_
  refine Plan.callF [] 0 rfl rfl rfl (.inl rfl) (by simp) (fun w hm => few_ct A p _ c w rfl) ?_   -- tinplate/tinplatelaw04.few
  rintro v Ln ⟨rfl, rfl⟩
  refine Plan.splitB (fun h16 => ?_) (fun h16 => ?_)
  · skip
    refine Plan.not rfl rfl rfl ?_
    refine Plan.done ?_
    refine HW.cond_false rfl ?_
    refine HW.skip ?_
    refine HW.seq (HW.region [(0, .st), (1, .st), (2, .ef), (3, .st), (4, .st), (5, .st), (6, .st), (7, .st)] rfl rfl ?_)
    refine Plan.move (v := .slice _ _ _) rfl rfl rfl ?_
    refine Plan.loadAll 0 rfl rfl aggGrid sizGrid rfl rfl rfl ?_
    refine Plan.callF [] 0 rfl rfl rfl (.inl rfl) (by simp) (fun w hm => (by have h5 := Admissible_ok A p p.length c x y z w (hp.mem hm) rfl (by omega) hb hg; rw [hadm] at h5; exact h5)) ?_   -- tinplate/blank.Admissible
    rintro v Ln ⟨rfl, rfl⟩
    refine Plan.move (v := .tuple _) rfl rfl rfl ?_
    refine Plan.extract (v := .bool _) rfl rfl rfl rfl ?_
    refine Plan.extract (v := .int _ _) rfl rfl rfl rfl ?_
    refine Plan.assign (v := .bool _) rfl rfl rfl ?_
    refine Plan.assign (v := .int _ _) rfl rfl rfl ?_
    refine Plan.done ?_
    refine HW.seq ?_
    refine HW.seq (HW.region [(0, .st), (1, .st), (2, .st), (3, .st), (4, .st), (5, .st)] rfl rfl ?_)
    refine Plan.move (v := .int _ _) rfl rfl rfl ?_
    refine Plan.cmp2 rfl rfl rfl rfl rfl (fun h26 => ?_) (fun h26 => ?_)
    · replace h26 := ne_of_t h26
      exact absurd rfl h26
    · replace h26 := eq_of_f h26
      refine Plan.move (v := .bool _) rfl rfl rfl ?_
      refine Plan.move (v := .bool _) rfl rfl rfl ?_
      refine Plan.not rfl rfl rfl ?_
      refine Plan.pick (v := .bool _) rfl rfl rfl rfl ?_
      refine Plan.done ?_
      refine HW.cond _ rfl (fun hc => ?_) (fun hc => ?_)
      · skip
        exact absurd hc (by decide)
      · skip
        refine HW.skip ?_
        refine HW.seq (HW.region [(0, .st), (1, .ef), (2, .st), (3, .st), (4, .st), (5, .st), (6, .st)] rfl rfl ?_)
        refine Plan.move (v := .slice _ _ _) rfl rfl rfl ?_
        refine Plan.callF [] 0 rfl rfl rfl (.inl rfl) (by simp) (fun w hm => (by have h5 := Area_ct A p p.length c w (hp.mem hm) rfl (by omega); rw [hA1] at h5; exact h5)) ?_   -- tinplate/convex.Area
        rintro v Ln ⟨rfl, rfl⟩
        refine Plan.move (v := .tuple _) rfl rfl rfl ?_
        refine Plan.extract (v := .int _ _) rfl rfl rfl rfl ?_
        refine Plan.extract (v := .int _ _) rfl rfl rfl rfl ?_
        refine Plan.assign (v := .int _ _) rfl rfl rfl ?_
        refine Plan.assign (v := .int _ _) rfl rfl rfl ?_
        refine Plan.done ?_
        refine HW.seq (HW.region [(0, .st), (1, .ef), (2, .st), (3, .st), (4, .st), (5, .st), (6, .st)] rfl rfl ?_)
        refine Plan.move (v := .slice _ _ _) rfl rfl rfl ?_
        refine Plan.callF [] 0 rfl rfl rfl (.inl rfl) (by simp) (fun w hm => (by have h5 := Flip_ct A p p.length c w (hp.mem hm) rfl (by omega); rw [hFl] at h5; exact h5)) ?_   -- tinplate/convex.Flip
        rintro v Ln ⟨o1, d1, rfl, rfl⟩
        refine Plan.move (v := .tuple _) rfl rfl rfl ?_
        refine Plan.extract (v := .slice _ _ _) rfl rfl rfl rfl ?_
        refine Plan.extract (v := .int _ _) rfl rfl rfl rfl ?_
        refine Plan.assign (v := .slice _ _ _) rfl rfl rfl ?_
        refine Plan.assign (v := .int _ _) rfl rfl rfl ?_
        refine Plan.done ?_
        refine HW.seq (HW.region [(0, .st), (1, .st), (2, .ef), (3, .st), (4, .st), (5, .st), (6, .st), (7, .st)] rfl rfl ?_)
        refine Plan.move (v := .slice _ _ _) rfl rfl rfl ?_
        refine Plan.move (v := .slice _ _ _) rfl rfl rfl ?_
        refine Plan.callF [] 0 rfl rfl rfl (.inl rfl) (by simp) (fun w hm => (by have h5 := Sum_ct A (at0 o1) p q p.length c q.length d1 w (hp.mem hm) (Res.own_rd enc2 (hm.res (ownV o1 d1 q) (by simp))) rfl rfl (by omega) (by omega); rw [hSu] at h5; exact h5)) ?_   -- tinplate/convex.Sum
        rintro v Ln ⟨o2, d2, rfl, rfl⟩
        refine Plan.move (v := .tuple _) rfl rfl rfl ?_
        refine Plan.extract (v := .slice _ _ _) rfl rfl rfl rfl ?_
        refine Plan.extract (v := .int _ _) rfl rfl rfl rfl ?_
        refine Plan.assign (v := .slice _ _ _) rfl rfl rfl ?_
        refine Plan.assign (v := .int _ _) rfl rfl rfl ?_
        refine Plan.done ?_
        refine HW.seq (HW.region [(0, .st), (1, .ef), (2, .st), (3, .st), (4, .st), (5, .st), (6, .st)] rfl rfl ?_)
        refine Plan.move (v := .slice _ _ _) rfl rfl rfl ?_
        refine Plan.callF [] 0 rfl rfl rfl (.inl rfl) (by simp) (fun w hm => (by have h5 := Area_ct (at0 o2) T T.length d2 w (Res.own_rd enc2 (hm.res (ownV o2 d2 T) (by simp))) rfl (by omega); rw [hA2] at h5; exact h5)) ?_   -- tinplate/convex.Area
        rintro v Ln ⟨rfl, rfl⟩
        refine Plan.move (v := .tuple _) rfl rfl rfl ?_
        refine Plan.extract (v := .int _ _) rfl rfl rfl rfl ?_
        refine Plan.extract (v := .int _ _) rfl rfl rfl rfl ?_
        refine Plan.assign (v := .int _ _) rfl rfl rfl ?_
        refine Plan.assign (v := .int _ _) rfl rfl rfl ?_
        refine Plan.done ?_
        refine HW.seq ?_
        refine HW.seq (HW.region [(0, .st), (1, .st), (2, .st), (3, .st), (4, .st), (5, .st), (6, .st), (7, .st), (8, .st), (9, .st), (10, .st), (11, .st), (12, .st), (13, .st), (14, .st), (15, .st)] rfl rfl ?_)
        refine Plan.move (v := .int _ _) rfl rfl rfl ?_
        refine Plan.cmp2 rfl rfl rfl rfl rfl (fun h62 => ?_) (fun h62 => ?_)
        · replace h62 := ne_of_t h62
          exact absurd rfl h62
        · replace h62 := eq_of_f h62
          refine Plan.move (v := .bool _) rfl rfl rfl ?_
          refine Plan.move (v := .int _ _) rfl rfl rfl ?_
          refine Plan.cmp2 rfl rfl rfl rfl rfl (fun h65 => ?_) (fun h65 => ?_)
          · replace h65 := ne_of_t h65
            exact absurd rfl h65
          · replace h65 := eq_of_f h65
            refine Plan.pick (v := .bool _) rfl rfl rfl rfl ?_
            refine Plan.move (v := .bool _) rfl rfl rfl ?_
            refine Plan.fieldAddr rfl rfl fldGrid0 rfl ?_
            refine Plan.load (v := .int _ _) rfl rfl aggI rfl (Sees.one 2 rfl rfl) ?_
            refine Plan.arithI rfl rfl rfl rfl rfl (by omega) ?_
            refine Plan.fieldAddr rfl rfl fldGrid2 rfl ?_
            refine Plan.load (v := .int _ _) rfl rfl aggI rfl (Sees.one 2 rfl rfl) ?_
            refine Plan.arithI rfl rfl rfl rfl rfl (by omega) ?_
            refine Plan.move (v := .int _ _) rfl rfl rfl ?_
            refine Plan.cmp2 rfl rfl rfl rfl rfl (fun h75 => ?_) (fun h75 => ?_)
            · replace h75 := of_decide_eq_true h75
              omega
            · replace h75 := of_decide_eq_false h75
              refine Plan.pick (v := .bool _) rfl rfl rfl rfl ?_
              refine Plan.done ?_
              refine HW.cond_false rfl ?_
              refine HW.skip ?_
              refine HW.seq ?_
              refine HW.seq (HW.region [(0, .st), (1, .st)] rfl rfl ?_)
              refine Plan.move (v := .int _ _) rfl rfl rfl ?_
              refine Plan.cmp2 rfl rfl rfl rfl rfl (fun h78 => ?_) (fun h78 => ?_)
              · replace h78 := ne_of_t h78
                refine Plan.done ?_
                refine HW.cond_true rfl ?_
                refine HW.seq (HW.region [(0, .st), (1, .st), (2, .st), (3, .ef), (4, .st), (5, .st)] rfl rfl ?_)
                refine Plan.move (v := .int _ _) rfl rfl rfl ?_
                refine Plan.cmp2 rfl rfl rfl rfl rfl (fun h80 => ?_) (fun h80 => ?_)
                · replace h80 := of_decide_eq_true h80
                  refine Plan.move (v := .bool _) rfl rfl rfl ?_
                  refine Plan.callF [] 0 rfl rfl rfl (.inl rfl) (by simp) (fun w hm => alive_ct w) ?_   -- tinplate/tinplatelaw04.alive
                  rintro v Ln ⟨rfl, rfl⟩
                  refine Plan.splitB (fun h82 => ?_) (fun h82 => ?_)
                  · skip
                    refine Plan.pick (v := .bool _) rfl rfl rfl rfl ?_
                    refine Plan.assign (v := .bool _) rfl rfl rfl ?_
                    refine Plan.done ?_
                    exact HW.ret ⟨rfl, _, [], .tmp rfl .nil, List.nil_sublist _, rfl, rfl⟩
                  · skip
                    exact absurd h82 (by decide)
                · replace h80 := of_decide_eq_false h80
                  omega
              · replace h78 := eq_of_f h78
                refine Plan.done ?_
                refine HW.cond_false rfl ?_
                refine HW.skip ?_
                refine HW.seq (HW.region [(0, .st), (1, .st), (2, .st), (3, .st), (4, .st), (5, .st), (6, .st), (7, .st), (8, .st), (9, .st), (10, .st), (11, .st), (12, .st), (13, .ef), (14, .st), (15, .st)] rfl rfl ?_)
                refine Plan.move (v := .int _ _) rfl rfl rfl ?_
                refine Plan.cmp2 rfl rfl rfl rfl rfl (fun h85 => ?_) (fun h85 => ?_)
                · replace h85 := of_decide_eq_true h85
                  refine Plan.move (v := .bool _) rfl rfl rfl ?_
                  refine Plan.fieldAddr rfl rfl fldGrid0 rfl ?_
                  refine Plan.load (v := .int _ _) rfl rfl aggI rfl (Sees.one 2 rfl rfl) ?_
                  refine Plan.arithI rfl rfl rfl rfl rfl (by omega) ?_
                  refine Plan.fieldAddr rfl rfl fldGrid2 rfl ?_
                  refine Plan.load (v := .int _ _) rfl rfl aggI rfl (Sees.one 2 rfl rfl) ?_
                  refine Plan.arithI rfl rfl rfl rfl rfl (by omega) ?_
                  refine Plan.move (v := .int _ _) rfl rfl rfl ?_
                  refine Plan.cmp2 rfl rfl rfl rfl rfl (fun h94 => ?_) (fun h94 => ?_)
                  · replace h94 := of_decide_eq_true h94
                    refine Plan.pick (v := .bool _) rfl rfl rfl rfl ?_
                    refine Plan.move (v := .bool _) rfl rfl rfl ?_
                    refine Plan.callF [] 0 rfl rfl rfl (.inl rfl) (by simp) (fun w hm => alive_ct w) ?_   -- tinplate/tinplatelaw04.alive
                    rintro v Ln ⟨rfl, rfl⟩
                    refine Plan.splitB (fun h97 => ?_) (fun h97 => ?_)
                    · skip
                      refine Plan.pick (v := .bool _) rfl rfl rfl rfl ?_
                      refine Plan.assign (v := .bool _) rfl rfl rfl ?_
                      refine Plan.done ?_
                      exact HW.ret ⟨rfl, _, [], .tmp rfl .nil, List.nil_sublist _, rfl, rfl⟩
                    · skip
                      exact absurd h97 (by decide)
                  · replace h94 := of_decide_eq_false h94
                    omega
                · replace h85 := of_decide_eq_false h85
                  omega
  · skip
    exact absurd h60 (of_decide_eq_false h16)

theorem blankArea_ct (A : Option Addr) (p : List Pt) (x y z : Int) (n c : Nat) (w : World) (hp : Rd enc 2 w A p) (hn : n = p.length) :
    Ct P 13 #[.slice A n c, gdv x y z] w [] (fun r L => r = .bool true ∧ L = []) := by
  by_cases h60 : p.length ≤ 60
  · rcases Bool.eq_false_or_eq_true (blankF p && goodG (x, y, z)) with hb | hb
    · simp only [Bool.and_eq_true] at hb
      rcases Bool.eq_false_or_eq_true (admB p (x, y, z)) with ha | ha
      · exact Area_ok A p n c x y z w hp hn h60 hb.1 hb.2 ha
      · exact Area_nadm A p n c x y z w hp hn h60 hb.1 hb.2 ha
    · exact Area_no A p n c x y z w hp hn h60 hb
  · exact Area_far A p n c x y z w hn h60

end Go.Proofs.Ytjmklbkcpjmcaaa.V
