/-
  Package blank: Lay.
-/
import Derived.Test.YtjmklbkcpjmcaaaU1
import Derived.Test.YtjmklbkcpjmcaaaB3
namespace Go.Proofs.Ytjmklbkcpjmcaaa.V
open Go Go.RowKit Go.Proofs.Ytjmklbkcpjmcaaa.H
set_option linter.unusedVariables false
set_option linter.unusedSimpArgs false

theorem undMap_api_Vec_api_Vec : P.underlying 97 = some (.map 52 22) := by kernel_rfl
theorem zerSlV (w : World) : (zeroValue 22).run P w = .ok (.slice none 0 0) w := by kernel_rfl

/-- a slice of the map, in memory -/
abbrev ownE (e : Pt × LE) : Res := ownV e.2.o e.2.c e.2.ys
theorem lay_add {w0 w : World} {X : List Nat} {r1 r2 r3 : Res} (k : Pt) (es : List (Pt × LE)) (hm : Mem w0 X (r1 :: r2 :: r3 :: es.map ownE) w) : Mem w0 X (r1 :: r2 :: r3 :: (entK k nilE es).1.map ownE) w := by
  unfold entK
  cases hk : keyAt k es with
  | some t => exact hm
  | none =>
    have h := hm.addNil (enc := enc) (sz := 2) (e := 52)
    refine h.perm ?_
    simp only [List.map_append, List.map_cons, List.map_nil]
    exact (List.perm_append_comm (l₁ := [Res.own enc 2 52 none 0 ([] : List Pt)]) (l₂ := r1 :: r2 :: r3 :: es.map ownE))
theorem lay_set {w0 w : World} {X : List Nat} {r0 r1 r2 r4 : Res} {es : List (Pt × LE)} {t : Nat} {k : Pt} {new : LE} (hm : Mem w0 X (r0 :: r1 :: r2 :: r4 :: (es.map ownE).set t (ownE (k, new))) w) : Mem w0 X (r2 :: r4 :: (es.set t (k, new)).map ownE) w := by
  rw [List.map_set]
  exact hm.sub (.cons _ (.cons _ (.refl _)))
theorem GrOK.len {f : Pt → Pt} {pre : List Pt} {es : List (Pt × LE)} (h : GrOK f pre es) {k : Pt} {v : LE} (hv : (entK k nilE es).1[(entK k nilE es).2]? = some (k, v)) : v.ys.length ≤ pre.length := by
  unfold entK at hv
  cases hk : keyAt k es with
  | some t =>
    simp only [hk] at hv
    obtain ⟨ht, he⟩ := List.getElem?_eq_some_iff.1 hv
    have := (h.own t ht).1
    rw [he] at this
    simp only at this
    rw [this]
    exact List.length_filter_le _ _
  | none =>
    simp only [hk] at hv
    rw [List.getElem?_append_right (Nat.le_refl _), Nat.sub_self] at hv
    simp only [List.getElem?_cons_zero, Option.some.injEq, Prod.mk.injEq] at hv
    obtain ⟨-, rfl⟩ := hv
    exact Nat.zero_le _

/-- the best of the entries that were seen -/
def BestOK (es : List (Pt × LE)) (seen : List Nat) (A : Option Addr) (n c : Nat) (f : Pt) : Prop :=
  (seen = [] ∧ A = none ∧ n = 0 ∧ c = 0 ∧ f = (0, 0)) ∨ ∃ j, ∃ hj : j < es.length, j ∈ seen ∧ A = at0 es[j].2.o ∧ n = es[j].2.ys.length ∧ c = es[j].2.c ∧ f = es[j].1 ∧
    ∀ i (hi : i < es.length), i ∈ seen → es[i].2.ys.length < es[j].2.ys.length ∨ es[i].2.ys.length = es[j].2.ys.length ∧ ¬ lexlt es[i].1 es[j].1
theorem lexlt_irrefl (a : Pt) : ¬ lexlt a a := by unfold lexlt; omega
theorem lexlt_trans {a b c : Pt} (h : lexlt a b) (h' : lexlt b c) : lexlt a c := by unfold lexlt at *; omega
theorem BestOK.take {es : List (Pt × LE)} {seen : List Nat} {A : Option Addr} {n c : Nat} {f : Pt} (h : BestOK es seen A n c f) {k : Nat} (hk : k < es.length) (hb : n < es[k].2.ys.length ∨ n = es[k].2.ys.length ∧ lexlt es[k].1 f) :
    BestOK es (seen ++ [k]) (at0 es[k].2.o) es[k].2.ys.length es[k].2.c es[k].1 := by
  refine .inr ⟨k, hk, by simp, rfl, rfl, rfl, rfl, fun i hi hs => ?_⟩
  rcases List.mem_append.1 hs with hs | hs
  · rcases h with ⟨rfl, _⟩ | ⟨j, hj, _, _, hn, _, hf, hall⟩
    · simp at hs
    · have h1 := hall i hi hs
      rcases hb with hb | ⟨hb, hl⟩
      · left; omega
      · rcases h1 with h1 | ⟨h1, h2⟩
        · left; omega
        · refine .inr ⟨by omega, fun hlt => h2 (lexlt_trans hlt (by rw [← hf]; exact hl))⟩
  · obtain rfl := List.mem_singleton.1 hs
    exact .inr ⟨rfl, lexlt_irrefl _⟩
theorem BestOK.keep {es : List (Pt × LE)} {seen : List Nat} {A : Option Addr} {n c : Nat} {f : Pt} (h : BestOK es seen A n c f) {k : Nat} (hk : k < es.length) (h0 : es[k].2.ys ≠ []) (hb : ¬ (n < es[k].2.ys.length ∨ n = es[k].2.ys.length ∧ lexlt es[k].1 f)) :
    BestOK es (seen ++ [k]) A n c f := by
  rcases h with ⟨_, _, hn, _, _⟩ | ⟨j, hj, hs, hA, hn, hc, hf, hall⟩
  · exact absurd (.inl (by have := List.length_pos_iff.2 h0; omega)) hb
  · refine .inr ⟨j, hj, List.mem_append_left _ hs, hA, hn, hc, hf, fun i hi hi2 => ?_⟩
    rcases List.mem_append.1 hi2 with hi2 | hi2
    · exact hall i hi hi2
    · obtain rfl := List.mem_singleton.1 hi2
      rw [← hn, ← hf]
      by_cases h1 : es[i].2.ys.length < n
      · exact .inl h1
      · have h2 : es[i].2.ys.length = n := by omega
        exact .inr ⟨h2, fun hl => hb (.inr ⟨h2.symm, hl⟩)⟩
theorem lay_out {a b d : Int} (hg : goodG (a, b, d) = true) {p : List Pt} {x y : Int} {es : List (Pt × LE)} (hG : GrOK (offF (a, b, d)) (pls p x y) es) {seen : List Nat} {A : Option Addr} {n c : Nat} {f : Pt} (h : BestOK es seen A n c f) (hall : ∀ j, j < es.length → j ∈ seen) :
    ∃ (o : Option Nat) (cc : Nat) (ys : List Pt), A = at0 o ∧ n = ys.length ∧ c = cc ∧ ys = LayL p (a, b, d) x y ∧ ∀ (w0 : World) (X : List Nat) (r1 r2 r3 r4 : Res) (w : World), Mem w0 X (r1 :: r2 :: r3 :: r4 :: es.map ownE) w → Mem w0 X [ownV o cc ys] w := by
  rcases h with ⟨h1, h2, h3, h4, _⟩ | ⟨j, hj, hs, hA, hn, hc, hf, hbest⟩
  · have h0 : es.length = 0 := by
      rcases Nat.eq_zero_or_pos es.length with h0 | h0
      · exact h0
      · have := hall 0 h0
        rw [h1] at this
        simp at this
    exact ⟨none, 0, [], h2, h3, h4, (hG.none h0).symm, fun w0 X r1 r2 r3 r4 w hm => (hm.addNil (enc := enc) (sz := 2) (e := 52)).sub (.cons_cons _ (List.nil_sublist _))⟩
  · refine ⟨es[j].2.o, es[j].2.c, es[j].2.ys, hA, hn, hc, hG.best hg hj fun i hi => hbest i hi (hall i hi), fun w0 X r1 r2 r3 r4 w hm => hm.sub ?_⟩
    have hin : ownE es[j] ∈ es.map ownE := List.mem_map_of_mem (List.getElem_mem hj)
    exact .cons _ (.cons _ (.cons _ (.cons _ (List.singleton_sublist.2 hin))))

structure LyG where
  j : Nat
  es : List (Pt × LE)
structure LzG where
  seen : List Nat
  A : Option Addr
  n : Nat
  c : Nat
  f : Pt

theorem LayB_no (A : Option Addr) (p : List Pt) (n c : Nat) (a b d x y : Int) (w : World) (hp : Rd enc 2 w A p) (hn : n = p.length) (hlen : p.length ≤ 1000000) (hb : (blankF p && goodG (a, b, d)) = false) :
    Ct P 27 #[.slice A n c, gdv a b d, int x, int y] w [] (fun r L => ∃ o c', r = .tuple #[slv o (LayF p (a, b, d) x y).1.length c', int (LayF p (a, b, d) x y).2] ∧ L = [ownV o c' (LayF p (a, b, d) x y).1]) := by
  subst hn
  have hF : LayF p (a, b, d) x y = ([], 2) := by rw [LayF, if_neg (by rw [LayB, hb, Bool.false_and, Bool.false_and]; decide)]
  have hck : ∀ w, Rd enc 2 w A p → Ct P 52 #[.slice A p.length c, gdv a b d] w [] (fun r L => r = .tuple #[.pointer none, int 2] ∧ L = []) := fun w hp => by
    rcases Bool.eq_false_or_eq_true (blankF p) with h1 | h1
    · exact checked_ct_bad A p _ c a b d w hp rfl hlen h1 (by rw [h1, Bool.true_and] at hb; exact hb)
    · exact checked_ct_no A p _ c a b d w hp rfl hlen h1
  refine Ct.of_body (rs := [.tmp 8, .tmp 9]) (N := 186) (L := []) Try.func27 rfl rfl rfl (by kernel_rfl) rfl (Mem.refl w) ?_
  refine HW.seq (HW.region [(0, .ef), (1, .st), (2, .st)] rfl rfl ?_)
  refine Plan.boxA rfl rfl rfl fun b5 => ?_
  refine Plan.assign (v := .slice _ _ _) rfl rfl rfl ?_
  refine Plan.assign (v := .int _ _) rfl rfl rfl ?_
  refine Plan.done ?_
  refine HW.seq (HW.region [(0, .st), (1, .st), (2, .ef), (3, .st), (4, .st), (5, .st), (6, .st), (7, .st)] rfl rfl ?_)
  refine Plan.move (v := .slice _ _ _) rfl rfl rfl ?_
  refine Plan.loadAll 0 rfl rfl aggGrid sizGrid rfl rfl rfl ?_
  refine Plan.callF [] 0 rfl rfl rfl (.inl rfl) (by simp) (fun w hm => hck w (hp.mem hm)) ?_   -- tinplate/blank.checked
  rintro v Ln ⟨rfl, rfl⟩
  refine Plan.move (v := .tuple _) rfl rfl rfl ?_
  refine Plan.extract (v := .pointer _) rfl rfl rfl rfl ?_
  refine Plan.extract (v := .int _ _) rfl rfl rfl rfl ?_
  refine Plan.assign (v := .pointer _) rfl rfl rfl ?_
  refine Plan.assign (v := .int _ _) rfl rfl rfl ?_
  refine Plan.done ?_
  refine HW.seq ?_
  refine HW.seq (HW.region [(0, .st), (1, .st)] rfl rfl ?_)
  refine Plan.move (v := .int _ _) rfl rfl rfl ?_
  refine Plan.cmp2 rfl rfl rfl rfl rfl (fun h33 => ?_) (fun h33 => ?_)
  · replace h33 := ne_of_t h33
    refine Plan.done ?_
    refine HW.cond_true rfl ?_
    refine HW.seq (HW.region [(0, .st), (1, .st), (2, .st)] rfl rfl ?_)
    refine Plan.move (v := .int _ _) rfl rfl rfl ?_
    refine Plan.assign (v := .slice _ _ _) rfl rfl rfl ?_
    refine Plan.assign (v := .int _ _) rfl rfl rfl ?_
    refine Plan.done ?_
    refine HW.addNil enc 2 52 ?_
    exact HW.ret ⟨rfl, _, [ownV none 0 []], .tmp rfl (.tmp rfl .nil), .cons_cons _ (List.nil_sublist _), none, 0, (by rw [hF]; rfl), by rw [hF]⟩
  · replace h33 := eq_of_f h33
    exact absurd h33 (by decide)

theorem LayB_bad (A : Option Addr) (p : List Pt) (n c : Nat) (a b d x y : Int) (w : World) (hp : Rd enc 2 w A p) (hn : n = p.length) (hlen : p.length ≤ 1000000) (hb : blankF p = true) (hg : goodG (a, b, d) = true) (hL : LayB p (a, b, d) x y = false) :
    Ct P 27 #[.slice A n c, gdv a b d, int x, int y] w [] (fun r L => ∃ o c', r = .tuple #[slv o (LayF p (a, b, d) x y).1.length c', int (LayF p (a, b, d) x y).2] ∧ L = [ownV o c' (LayF p (a, b, d) x y).1]) := by
  subst hn
  have hF : LayF p (a, b, d) x y = ([], 2) := by rw [LayF, if_neg (by rw [hL]; decide)]
  refine Ct.of_body (rs := [.tmp 8, .tmp 9]) (N := 186) (L := []) Try.func27 rfl rfl rfl (by kernel_rfl) rfl (Mem.refl w) ?_
  refine HW.seq (HW.region [(0, .ef), (1, .st), (2, .st)] rfl rfl ?_)
  refine Plan.boxA rfl rfl rfl fun b5 => ?_
  refine Plan.assign (v := .slice _ _ _) rfl rfl rfl ?_
  refine Plan.assign (v := .int _ _) rfl rfl rfl ?_
  refine Plan.done ?_
  refine HW.seq (HW.region [(0, .st), (1, .st), (2, .ef), (3, .st), (4, .st), (5, .st), (6, .st), (7, .st)] rfl rfl ?_)
  refine Plan.move (v := .slice _ _ _) rfl rfl rfl ?_
  refine Plan.loadAll 0 rfl rfl aggGrid sizGrid rfl rfl rfl ?_
  refine Plan.callF [] 0 rfl rfl rfl (.inl rfl) (by simp) (fun w hm => checked_ct A p _ c a b d w (hp.mem hm) rfl hlen hb hg) ?_   -- tinplate/blank.checked
  rintro v Ln ⟨sb, m, rfl, rfl⟩
  refine Plan.move (v := .tuple _) rfl rfl rfl ?_
  refine Plan.extract (v := .pointer _) rfl rfl rfl rfl ?_
  refine Plan.extract (v := .int _ _) rfl rfl rfl rfl ?_
  refine Plan.assign (v := .pointer _) rfl rfl rfl ?_
  refine Plan.assign (v := .int _ _) rfl rfl rfl ?_
  refine Plan.done ?_
  refine HW.seq ?_
  refine HW.seq (HW.region [(0, .st), (1, .st)] rfl rfl ?_)
  refine Plan.move (v := .int _ _) rfl rfl rfl ?_
  refine Plan.cmp2 rfl rfl rfl rfl rfl (fun h33 => ?_) (fun h33 => ?_)
  · replace h33 := ne_of_t h33
    exact absurd rfl h33
  · replace h33 := eq_of_f h33
    refine Plan.done ?_
    refine HW.cond_false rfl ?_
    refine HW.skip ?_
    refine HW.seq ?_
    refine HW.seq (HW.region [(0, .st), (1, .st), (2, .st), (3, .st), (4, .st), (5, .st), (6, .st), (7, .st), (8, .st), (9, .st), (10, .st), (11, .st), (12, .st), (13, .st), (14, .st), (15, .st), (16, .st), (17, .ef), (18, .st), (19, .st)] rfl rfl ?_)
    refine Plan.move (v := .int _ _) rfl rfl rfl ?_
    refine Plan.cmp2 rfl rfl rfl rfl rfl (fun h36 => ?_) (fun h36 => ?_)
    · replace h36 := of_decide_eq_true h36
      refine Plan.move (v := .bool _) rfl rfl rfl ?_
      refine Plan.no rfl rfl ?_
      refine Plan.no rfl rfl ?_
      refine Plan.pick (v := .bool _) rfl rfl rfl rfl ?_
      refine Plan.move (v := .bool _) rfl rfl rfl ?_
      refine Plan.no rfl rfl ?_
      refine Plan.no rfl rfl ?_
      refine Plan.pick (v := .bool _) rfl rfl rfl rfl ?_
      refine Plan.move (v := .bool _) rfl rfl rfl ?_
      refine Plan.no rfl rfl ?_
      refine Plan.no rfl rfl ?_
      refine Plan.pick (v := .bool _) rfl rfl rfl rfl ?_
      refine Plan.move (v := .bool _) rfl rfl rfl ?_
      refine Plan.no rfl rfl ?_
      refine Plan.no rfl rfl ?_
      refine Plan.noE rfl rfl ?_
      refine Plan.no rfl rfl ?_
      refine Plan.pick (v := .bool _) rfl rfl rfl rfl ?_
      refine Plan.done ?_
      refine HW.cond_true rfl ?_
      refine HW.seq (HW.region [(0, .st), (1, .st)] rfl rfl ?_)
      refine Plan.assign (v := .slice _ _ _) rfl rfl rfl ?_
      refine Plan.assign (v := .int _ _) rfl rfl rfl ?_
      refine Plan.done ?_
      refine HW.addNil enc 2 52 ?_
      exact HW.ret ⟨rfl, _, [ownV none 0 []], .tmp rfl (.tmp rfl .nil), .cons_cons _ (List.nil_sublist _), none, 0, (by rw [hF]; rfl), by rw [hF]⟩
    · replace h36 := of_decide_eq_false h36
      refine Plan.move (v := .bool _) rfl rfl rfl ?_
      refine Plan.move (v := .int _ _) rfl rfl rfl ?_
      refine Plan.cmp2 rfl rfl rfl rfl rfl (fun h39 => ?_) (fun h39 => ?_)
      · replace h39 := of_decide_eq_true h39
        refine Plan.pick (v := .bool _) rfl rfl rfl rfl ?_
        refine Plan.move (v := .bool _) rfl rfl rfl ?_
        refine Plan.no rfl rfl ?_
        refine Plan.no rfl rfl ?_
        refine Plan.pick (v := .bool _) rfl rfl rfl rfl ?_
        refine Plan.move (v := .bool _) rfl rfl rfl ?_
        refine Plan.no rfl rfl ?_
        refine Plan.no rfl rfl ?_
        refine Plan.pick (v := .bool _) rfl rfl rfl rfl ?_
        refine Plan.move (v := .bool _) rfl rfl rfl ?_
        refine Plan.no rfl rfl ?_
        refine Plan.no rfl rfl ?_
        refine Plan.noE rfl rfl ?_
        refine Plan.no rfl rfl ?_
        refine Plan.pick (v := .bool _) rfl rfl rfl rfl ?_
        refine Plan.done ?_
        refine HW.cond_true rfl ?_
        refine HW.seq (HW.region [(0, .st), (1, .st)] rfl rfl ?_)
        refine Plan.assign (v := .slice _ _ _) rfl rfl rfl ?_
        refine Plan.assign (v := .int _ _) rfl rfl rfl ?_
        refine Plan.done ?_
        refine HW.addNil enc 2 52 ?_
        exact HW.ret ⟨rfl, _, [ownV none 0 []], .tmp rfl (.tmp rfl .nil), .cons_cons _ (List.nil_sublist _), none, 0, (by rw [hF]; rfl), by rw [hF]⟩
      · replace h39 := of_decide_eq_false h39
        refine Plan.pick (v := .bool _) rfl rfl rfl rfl ?_
        refine Plan.move (v := .bool _) rfl rfl rfl ?_
        refine Plan.move (v := .int _ _) rfl rfl rfl ?_
        refine Plan.cmp2 rfl rfl rfl rfl rfl (fun h43 => ?_) (fun h43 => ?_)
        · replace h43 := of_decide_eq_true h43
          refine Plan.pick (v := .bool _) rfl rfl rfl rfl ?_
          refine Plan.move (v := .bool _) rfl rfl rfl ?_
          refine Plan.no rfl rfl ?_
          refine Plan.no rfl rfl ?_
          refine Plan.pick (v := .bool _) rfl rfl rfl rfl ?_
          refine Plan.move (v := .bool _) rfl rfl rfl ?_
          refine Plan.no rfl rfl ?_
          refine Plan.no rfl rfl ?_
          refine Plan.noE rfl rfl ?_
          refine Plan.no rfl rfl ?_
          refine Plan.pick (v := .bool _) rfl rfl rfl rfl ?_
          refine Plan.done ?_
          refine HW.cond_true rfl ?_
          refine HW.seq (HW.region [(0, .st), (1, .st)] rfl rfl ?_)
          refine Plan.assign (v := .slice _ _ _) rfl rfl rfl ?_
          refine Plan.assign (v := .int _ _) rfl rfl rfl ?_
          refine Plan.done ?_
          refine HW.addNil enc 2 52 ?_
          exact HW.ret ⟨rfl, _, [ownV none 0 []], .tmp rfl (.tmp rfl .nil), .cons_cons _ (List.nil_sublist _), none, 0, (by rw [hF]; rfl), by rw [hF]⟩
        · replace h43 := of_decide_eq_false h43
          refine Plan.pick (v := .bool _) rfl rfl rfl rfl ?_
          refine Plan.move (v := .bool _) rfl rfl rfl ?_
          refine Plan.move (v := .int _ _) rfl rfl rfl ?_
          refine Plan.cmp2 rfl rfl rfl rfl rfl (fun h47 => ?_) (fun h47 => ?_)
          · replace h47 := of_decide_eq_true h47
            refine Plan.pick (v := .bool _) rfl rfl rfl rfl ?_
            refine Plan.move (v := .bool _) rfl rfl rfl ?_
            refine Plan.no rfl rfl ?_
            refine Plan.no rfl rfl ?_
            refine Plan.noE rfl rfl ?_
            refine Plan.no rfl rfl ?_
            refine Plan.pick (v := .bool _) rfl rfl rfl rfl ?_
            refine Plan.done ?_
            refine HW.cond_true rfl ?_
            refine HW.seq (HW.region [(0, .st), (1, .st)] rfl rfl ?_)
            refine Plan.assign (v := .slice _ _ _) rfl rfl rfl ?_
            refine Plan.assign (v := .int _ _) rfl rfl rfl ?_
            refine Plan.done ?_
            refine HW.addNil enc 2 52 ?_
            exact HW.ret ⟨rfl, _, [ownV none 0 []], .tmp rfl (.tmp rfl .nil), .cons_cons _ (List.nil_sublist _), none, 0, (by rw [hF]; rfl), by rw [hF]⟩
          · replace h47 := of_decide_eq_false h47
            refine Plan.pick (v := .bool _) rfl rfl rfl rfl ?_
            refine Plan.move (v := .bool _) rfl rfl rfl ?_
            refine Plan.move (v := .pointer _) rfl rfl rfl ?_
            refine Plan.loadAll 2 rfl rfl aggGrid sizGrid rfl rfl rfl ?_
            refine Plan.callF [] 0 rfl rfl rfl (.inl rfl) (by simp) (fun w hm => admits_ct sb A _ c m (hits p) a b d w (hm.res _ List.mem_cons_self) (hm.res (Res.mp vc Value.bool m (tag (hits p))) (by simp)) hg (fun v hv => hits_bd hv)) ?_   -- (*tinplate/blank.shape).admits
            rintro v Ln ⟨rfl, rfl⟩
            refine Plan.splitB (fun h52 => ?_) (fun h52 => ?_)
            · skip
              have hadm : admB p (a, b, d) = true := h52
              rw [LayB, hb, hg, hadm, decide_eq_true ⟨by omega, by omega, by omega, by omega⟩] at hL
              exact absurd hL (by decide)
            · skip
              refine Plan.not rfl rfl rfl ?_
              refine Plan.pick (v := .bool _) rfl rfl rfl rfl ?_
              refine Plan.done ?_
              refine HW.cond_true rfl ?_
              refine HW.seq (HW.region [(0, .st), (1, .st)] rfl rfl ?_)
              refine Plan.assign (v := .slice _ _ _) rfl rfl rfl ?_
              refine Plan.assign (v := .int _ _) rfl rfl rfl ?_
              refine Plan.done ?_
              refine HW.addNil enc 2 52 ?_
              exact HW.ret ⟨rfl, _, [ownV none 0 []], .tmp rfl (.tmp rfl .nil), .cons_cons _ (List.nil_sublist _), none, 0, (by rw [hF]; rfl), by rw [hF]⟩

set_option maxRecDepth 100000 in
set_option maxHeartbeats 2000000 in
theorem LayB_ok (A : Option Addr) (p : List Pt) (n c : Nat) (a b d x y : Int) (w : World) (hp : Rd enc 2 w A p) (hn : n = p.length) (hlen : p.length ≤ 1000000) (hb : blankF p = true) (hg : goodG (a, b, d) = true) (hadm : admB p (a, b, d) = true) (hx : 1 ≤ x ∧ x ≤ 100) (hy : 1 ≤ y ∧ y ≤ 100) :
    Ct P 27 #[.slice A n c, gdv a b d, int x, int y] w [] (fun r L => ∃ o c', r = .tuple #[slv o (LayF p (a, b, d) x y).1.length c', int (LayF p (a, b, d) x y).2] ∧ L = [ownV o c' (LayF p (a, b, d) x y).1]) := by
  subst hn
  have hF : LayF p (a, b, d) x y = (LayL p (a, b, d) x y, 0) := by rw [LayF, if_pos (by rw [LayB, hb, hg, hadm, decide_eq_true ⟨hx.1, hx.2, hy.1, hy.2⟩]; rfl)]
  obtain ⟨v1, v2, v3, v4⟩ := validF_spec (blankF_spec hb).1
  have h0 : 0 < p.length := by omega
  obtain ⟨s1, s2, s3⟩ := size_bd hb (w := x) (h := y) hx.2 hy.2
  obtain ⟨t1, t2, t3, t4, t5, t6⟩ := box_spec hb
  have hdX : nxF p x = (x - X2 p + X1 p + 1).toNat := rfl
  have hdY : nyF p y = (y - Y2 p + Y1 p + 1).toNat := rfl
  have eX1 : mnT fX p p.length = X1 p := rfl
  have eX2 : mxT fX p p.length = X2 p := rfl
  have eY1 : mnT fY p p.length = Y1 p := rfl
  have eY2 : mxT fY p p.length = Y2 p := rfl
  obtain ⟨a0, ea0, hl0⟩ := hp 0 h0
  have hg0 : p[0] = nth p 0 := (nth_get h0).symm
  rw [hg0] at hl0
  refine Ct.of_body (rs := [.tmp 8, .tmp 9]) (N := 186) (L := []) Try.func27 rfl rfl rfl (by kernel_rfl) rfl (Mem.refl w) ?_
  refine HW.seq (HW.region [(0, .ef), (1, .st), (2, .st)] rfl rfl ?_)
  refine Plan.boxA rfl rfl rfl fun b5 => ?_
  refine Plan.assign (v := .slice _ _ _) rfl rfl rfl ?_
  refine Plan.assign (v := .int _ _) rfl rfl rfl ?_
  refine Plan.done ?_
  refine HW.seq (HW.region [(0, .st), (1, .st), (2, .ef), (3, .st), (4, .st), (5, .st), (6, .st), (7, .st)] rfl rfl ?_)
  refine Plan.move (v := .slice _ _ _) rfl rfl rfl ?_
  refine Plan.loadAll 0 rfl rfl aggGrid sizGrid rfl rfl rfl ?_
  refine Plan.callF [] 0 rfl rfl rfl (.inl rfl) (by simp) (fun w hm => checked_ct A p _ c a b d w (hp.mem hm) rfl hlen hb hg) ?_   -- tinplate/blank.checked
  rintro v Ln ⟨sb, m, rfl, rfl⟩
  refine Plan.move (v := .tuple _) rfl rfl rfl ?_
  refine Plan.extract (v := .pointer _) rfl rfl rfl rfl ?_
  refine Plan.extract (v := .int _ _) rfl rfl rfl rfl ?_
  refine Plan.assign (v := .pointer _) rfl rfl rfl ?_
  refine Plan.assign (v := .int _ _) rfl rfl rfl ?_
  refine Plan.done ?_
  refine HW.seq ?_
  refine HW.seq (HW.region [(0, .st), (1, .st)] rfl rfl ?_)
  refine Plan.move (v := .int _ _) rfl rfl rfl ?_
  refine Plan.cmp2 rfl rfl rfl rfl rfl (fun h33 => ?_) (fun h33 => ?_)
  · replace h33 := ne_of_t h33
    exact absurd rfl h33
  · replace h33 := eq_of_f h33
    refine Plan.done ?_
    refine HW.cond_false rfl ?_
    refine HW.skip ?_
    refine HW.seq ?_
    refine HW.seq (HW.region [(0, .st), (1, .st), (2, .st), (3, .st), (4, .st), (5, .st), (6, .st), (7, .st), (8, .st), (9, .st), (10, .st), (11, .st), (12, .st), (13, .st), (14, .st), (15, .st), (16, .st), (17, .ef), (18, .st), (19, .st)] rfl rfl ?_)
    refine Plan.move (v := .int _ _) rfl rfl rfl ?_
    refine Plan.cmp2 rfl rfl rfl rfl rfl (fun h36 => ?_) (fun h36 => ?_)
    · replace h36 := of_decide_eq_true h36
      omega
    · replace h36 := of_decide_eq_false h36
      refine Plan.move (v := .bool _) rfl rfl rfl ?_
      refine Plan.move (v := .int _ _) rfl rfl rfl ?_
      refine Plan.cmp2 rfl rfl rfl rfl rfl (fun h39 => ?_) (fun h39 => ?_)
      · replace h39 := of_decide_eq_true h39
        omega
      · replace h39 := of_decide_eq_false h39
        refine Plan.pick (v := .bool _) rfl rfl rfl rfl ?_
        refine Plan.move (v := .bool _) rfl rfl rfl ?_
        refine Plan.move (v := .int _ _) rfl rfl rfl ?_
        refine Plan.cmp2 rfl rfl rfl rfl rfl (fun h43 => ?_) (fun h43 => ?_)
        · replace h43 := of_decide_eq_true h43
          omega
        · replace h43 := of_decide_eq_false h43
          refine Plan.pick (v := .bool _) rfl rfl rfl rfl ?_
          refine Plan.move (v := .bool _) rfl rfl rfl ?_
          refine Plan.move (v := .int _ _) rfl rfl rfl ?_
          refine Plan.cmp2 rfl rfl rfl rfl rfl (fun h47 => ?_) (fun h47 => ?_)
          · replace h47 := of_decide_eq_true h47
            omega
          · replace h47 := of_decide_eq_false h47
            refine Plan.pick (v := .bool _) rfl rfl rfl rfl ?_
            refine Plan.move (v := .bool _) rfl rfl rfl ?_
            refine Plan.move (v := .pointer _) rfl rfl rfl ?_
            refine Plan.loadAll 2 rfl rfl aggGrid sizGrid rfl rfl rfl ?_
            refine Plan.callF [] 0 rfl rfl rfl (.inl rfl) (by simp) (fun w hm => admits_ct sb A _ c m (hits p) a b d w (hm.res _ List.mem_cons_self) (hm.res (Res.mp vc Value.bool m (tag (hits p))) (by simp)) hg (fun v hv => hits_bd hv)) ?_   -- (*tinplate/blank.shape).admits
            rintro v Ln ⟨rfl, rfl⟩
            refine Plan.splitB (fun h52 => ?_) (fun h52 => ?_)
            · skip
              refine Plan.not rfl rfl rfl ?_
              refine Plan.pick (v := .bool _) rfl rfl rfl rfl ?_
              refine Plan.done ?_
              refine HW.cond_false rfl ?_
              refine HW.skip ?_
              refine HW.seq (HW.region_any [] [(0, .st), (1, .st), (2, .st), (3, .st), (4, .st), (5, .st), (6, .st), (7, .st), (8, .st), (9, .st), (10, .st), (11, .st), (12, .st), (13, .st), (14, .st), (15, .st)] mix (by kernel_rfl) (fun _ _ _ _ _ h => h) (zeros rfl) ?_)
              refine Plan.move (v := .pointer _) rfl rfl rfl ?_
              refine Plan.nilCheck rfl rfl rfl ?_
              refine Plan.fieldAddr rfl rfl fldshape0 rfl ?_
              refine Plan.load (v := .slice _ _ _) rfl rfl agg_api_Vec rfl (Sees.one 0 rfl rfl) ?_
              refine Plan.indexN (0) rfl rfl slV sizV rfl ea0 rfl rfl (h0) ?_
              refine Plan.fieldAddr rfl rfl fldV0 rfl ?_
              refine Plan.load (v := .int _ _) rfl rfl aggI rfl (Sees.nth (Sees.old hl0 (by simp)) 0 rfl) ?_
              refine Plan.move (v := .pointer _) rfl rfl rfl ?_
              refine Plan.nilCheck rfl rfl rfl ?_
              refine Plan.fieldAddr rfl rfl fldshape0 rfl ?_
              refine Plan.load (v := .slice _ _ _) rfl rfl agg_api_Vec rfl (Sees.one 0 rfl rfl) ?_
              refine Plan.indexN (0) rfl rfl slV sizV rfl ea0 rfl rfl (h0) ?_
              refine Plan.fieldAddr rfl rfl fldV0 rfl ?_
              refine Plan.load (v := .int _ _) rfl rfl aggI rfl (Sees.nth (Sees.old hl0 (by simp)) 0 rfl) ?_
              refine Plan.assign (v := .int _ _) rfl rfl rfl ?_
              refine Plan.assign (v := .int _ _) rfl rfl rfl ?_
              refine Plan.done ?_
              refine HW.seq (HW.region_any [] [(0, .st), (1, .st), (2, .st), (3, .st), (4, .st), (5, .st), (6, .st), (7, .st), (8, .st), (9, .st), (10, .st), (11, .st), (12, .st), (13, .st), (14, .st), (15, .st)] mix (by kernel_rfl) (fun _ _ _ _ _ h => h) (zeros rfl) ?_)
              refine Plan.move (v := .pointer _) rfl rfl rfl ?_
              refine Plan.nilCheck rfl rfl rfl ?_
              refine Plan.fieldAddr rfl rfl fldshape0 rfl ?_
              refine Plan.load (v := .slice _ _ _) rfl rfl agg_api_Vec rfl (Sees.one 0 rfl rfl) ?_
              refine Plan.indexN (0) rfl rfl slV sizV rfl ea0 rfl rfl (h0) ?_
              refine Plan.fieldAddr rfl rfl fldV1 rfl ?_
              refine Plan.load (v := .int _ _) rfl rfl aggI rfl (Sees.nth (Sees.old hl0 (by simp)) 1 rfl) ?_
              refine Plan.move (v := .pointer _) rfl rfl rfl ?_
              refine Plan.nilCheck rfl rfl rfl ?_
              refine Plan.fieldAddr rfl rfl fldshape0 rfl ?_
              refine Plan.load (v := .slice _ _ _) rfl rfl agg_api_Vec rfl (Sees.one 0 rfl rfl) ?_
              refine Plan.indexN (0) rfl rfl slV sizV rfl ea0 rfl rfl (h0) ?_
              refine Plan.fieldAddr rfl rfl fldV1 rfl ?_
              refine Plan.load (v := .int _ _) rfl rfl aggI rfl (Sees.nth (Sees.old hl0 (by simp)) 1 rfl) ?_
              refine Plan.assign (v := .int _ _) rfl rfl rfl ?_
              refine Plan.assign (v := .int _ _) rfl rfl rfl ?_
              refine Plan.done ?_
              refine HW.seq ?_
              refine HW.seq (HW.region [(0, .st), (1, .st), (2, .st), (3, .st), (4, .st), (5, .st)] rfl rfl ?_)
              refine Plan.move (v := .pointer _) rfl rfl rfl ?_
              refine Plan.nilCheck rfl rfl rfl ?_
              refine Plan.fieldAddr rfl rfl fldshape0 rfl ?_
              refine Plan.load (v := .slice _ _ _) rfl rfl agg_api_Vec rfl (Sees.one 0 rfl rfl) ?_
              refine Plan.len rfl rfl slV rfl ?_
              refine Plan.move (v := .int _ _) rfl rfl rfl ?_
              refine Plan.done ?_
              refine HW.block ?_
              refine HW.loopL (G := Nat) [12, 13, 14, 15, 17, 88, 89, 90, 91, 92, 93, 94, 95, 96, 97, 98, 99, 100, 101, 102, 103, 104, 105, 106, 107, 108] (fun g => [(12, int (mnT fX p g)), (13, int (mxT fX p g)), (14, int (mnT fY p g)), (15, int (mxT fY p g)), (88, int ((g : Nat) : Int))]) (fun g => [Res.blk sb #[.slice A p.length c, .map (some m)] 96, Res.mp vc Value.bool m (tag (hits p)), Res.blk b5 #[int a, int b, int d] 26]) (fun g => g ≤ p.length) (fun g => p.length - g) (0) ⟨rfl, rfl, rfl, rfl, rfl, trivial⟩ (fun w' hm => hm) (Nat.zero_le _) (fun g F hok => ?_)
              refine HW.seq (HW.region [(0, .st)] rfl rfl ?_)
              refine Plan.cmp2 rfl rfl rfl rfl rfl (fun h89 => ?_) (fun h89 => ?_)
              · replace h89 := of_decide_eq_true h89
                have hlt : g < p.length := by omega
                obtain ⟨ad, ea, hl1⟩ := hp g hlt
                have hgg : p[g] = nth p g := (nth_get hlt).symm
                rw [hgg] at hl1
                refine Plan.done ?_
                refine HW.seq ?_
                refine HW.cond_true rfl ?_
                refine HW.skip ?_
                refine HW.seq ?_
                refine HW.block ?_
                refine HW.seq (HW.region [(0, .st), (1, .st), (2, .al), (3, .ef)] rfl rfl ?_)
                refine Plan.indexN (g) rfl rfl slV sizV rfl ea rfl rfl (hlt) ?_
                refine Plan.loadAgg rfl rfl aggV sizV rfl (Sees.old hl1 (by simp)) rfl ?_
                refine Plan.alloc rfl zerV fun b17 => ?_
                refine Plan.storeA 0 rfl rfl hDn sizV rfl rfl rfl rfl rfl rfl ?_
                refine Plan.done ?_
                refine HW.region_any [] [(0, .st), (1, .st), (2, .st), (3, .st), (4, .st), (5, .st), (6, .st), (7, .st), (8, .st), (9, .st), (10, .st), (11, .st), (12, .st), (13, .st), (14, .st), (15, .st), (16, .st), (17, .st), (18, .st), (19, .st)] mix (by kernel_rfl) (fun _ _ _ _ _ h => h) (zeros rfl) ?_
                refine Plan.move (v := .int _ _) rfl rfl rfl ?_
                refine Plan.fieldAddr rfl rfl fldV0 rfl ?_
                refine Plan.load (v := .int _ _) rfl rfl aggI rfl (Sees.one 0 rfl rfl) ?_
                refine Plan.min rfl rfl rfl rfl ?_
                refine Plan.move (v := .int _ _) rfl rfl rfl ?_
                refine Plan.fieldAddr rfl rfl fldV0 rfl ?_
                refine Plan.load (v := .int _ _) rfl rfl aggI rfl (Sees.one 0 rfl rfl) ?_
                refine Plan.max rfl rfl rfl rfl ?_
                refine Plan.move (v := .int _ _) rfl rfl rfl ?_
                refine Plan.fieldAddr rfl rfl fldV1 rfl ?_
                refine Plan.load (v := .int _ _) rfl rfl aggI rfl (Sees.one 0 rfl rfl) ?_
                refine Plan.min rfl rfl rfl rfl ?_
                refine Plan.move (v := .int _ _) rfl rfl rfl ?_
                refine Plan.fieldAddr rfl rfl fldV1 rfl ?_
                refine Plan.load (v := .int _ _) rfl rfl aggI rfl (Sees.one 0 rfl rfl) ?_
                refine Plan.max rfl rfl rfl rfl ?_
                refine Plan.assign (v := .int _ _) rfl rfl rfl ?_
                refine Plan.assign (v := .int _ _) rfl rfl rfl ?_
                refine Plan.assign (v := .int _ _) rfl rfl rfl ?_
                refine Plan.assign (v := .int _ _) rfl rfl rfl ?_
                refine Plan.done ?_
                refine HW.region [(0, .st), (1, .st)] rfl rfl ?_
                refine Plan.arithI rfl rfl rfl rfl rfl (by omega) ?_
                refine Plan.move (v := .int _ _) rfl rfl rfl ?_
                refine Plan.done ?_
                exact ⟨g + 1, by simp only; omega, hlt, rfl, Ent.sub (.cons _ (.refl _)), (by repeat (first | exact Agree.havoc _ _ _ | refine Agree.updN ?_ | refine Agree.upd rfl ?_ | refine Agree.updL rfl ?_ | refine Agree.havoc2 rfl ?_)), ⟨rfl, rfl, rfl, rfl, int_eq (by push_cast; omega), trivial⟩⟩
              · replace h89 := of_decide_eq_false h89
                have hge : g = p.length := by omega
                subst hge
                refine Plan.done ?_
                refine HW.seq ?_
                refine HW.cond_false rfl ?_
                refine HW.exit ?_
                refine HW.seq (HW.region [(0, .ef), (1, .st)] rfl rfl ?_)
                refine Plan.makeMap vc evS rfl rfl fun b109 => ?_
                refine Plan.assign (v := .map _) rfl rfl rfl ?_
                refine Plan.done ?_
                refine HW.seq ?_
                refine HW.seq (HW.region [(0, .st), (1, .st), (2, .st)] rfl rfl ?_)
                refine Plan.move (v := .int _ _) rfl rfl rfl ?_
                refine Plan.neg rfl rfl rfl (by omega) ?_
                refine Plan.assign (v := .int _ _) rfl rfl rfl ?_
                refine Plan.done ?_
                refine HW.block ?_
                refine HW.loopL (G := LyG) [19, 20, 21, 112, 113, 114, 115, 116, 117, 118, 119, 120, 121, 122, 123, 124, 125, 126, 127, 128, 129, 130, 131, 132, 133, 134, 135, 136, 137, 138, 139, 140, 141, 142] (fun g => [(19, int ((g.j : Int) - Y1 p))]) (fun g => Res.mp vc evS b109 g.es :: Res.blk b5 #[int a, int b, int d] 26 :: g.es.map ownE) (fun g => g.j ≤ nyF p y ∧ GrOK (offF (a, b, d)) (plN p (nxF p x) (g.j * nxF p x)) g.es) (fun g => nyF p y - g.j) (⟨0, []⟩) ⟨int_eq (by simp only; omega), trivial⟩ (fun w' hm => hm.sub (.cons_cons _ (.cons _ (.cons _ (.refl _))))) ((by refine ⟨Nat.zero_le _, ?_⟩; show GrOK _ (plN p (nxF p x) (0 * nxF p x)) []; rw [Nat.zero_mul]; exact GrOK.nil _)) (fun g F hok => ?_)
                obtain ⟨j, es⟩ := g
                obtain ⟨hj1, hj2⟩ := hok
                dsimp only at hj1 hj2
                dsimp only
                refine HW.seq ?_
                refine HW.seq (HW.region [(0, .st), (1, .st), (2, .st), (3, .st), (4, .st)] rfl rfl ?_)
                refine Plan.move (v := .int _ _) rfl rfl rfl ?_
                refine Plan.move (v := .int _ _) rfl rfl rfl ?_
                refine Plan.arithI rfl rfl rfl rfl rfl (by omega) ?_
                refine Plan.move (v := .int _ _) rfl rfl rfl ?_
                refine Plan.cmp2 rfl rfl rfl rfl rfl (fun h116 => ?_) (fun h116 => ?_)
                · replace h116 := of_decide_eq_true h116
                  have hj : j < nyF p y := by omega
                  have hmul := Nat.mul_le_mul_right (nxF p x) (show j + 1 ≤ nyF p y from hj)
                  rw [Nat.succ_mul] at hmul
                  refine Plan.done ?_
                  refine HW.cond_true rfl ?_
                  refine HW.skip ?_
                  refine HW.seq ?_
                  refine HW.block ?_
                  refine HW.seq (HW.region [(0, .st), (1, .st), (2, .st)] rfl rfl ?_)
                  refine Plan.move (v := .int _ _) rfl rfl rfl ?_
                  refine Plan.neg rfl rfl rfl (by omega) ?_
                  refine Plan.assign (v := .int _ _) rfl rfl rfl ?_
                  refine Plan.done ?_
                  refine HW.block ?_
                  refine HW.loopL (G := LyG) [20, 21, 121, 122, 123, 124, 125, 126, 127, 128, 129, 130, 131, 132, 133, 134, 135, 136, 137, 138, 139, 140, 141, 142] (fun g => [(20, int ((g.j : Int) - X1 p))]) (fun g => Res.mp vc evS b109 g.es :: Res.blk b5 #[int a, int b, int d] 26 :: g.es.map ownE) (fun g => g.j ≤ nxF p x ∧ GrOK (offF (a, b, d)) (plN p (nxF p x) (j * nxF p x + g.j)) g.es) (fun g => nxF p x - g.j) (⟨0, es⟩) ⟨int_eq (by simp only; omega), trivial⟩ (fun w' hm => hm) (⟨Nat.zero_le _, hj2⟩) (fun g F hok => ?_)
                  obtain ⟨i, es3⟩ := g
                  obtain ⟨hi1, hi2⟩ := hok
                  dsimp only at hi1 hi2
                  dsimp only
                  refine HW.seq ?_
                  refine HW.seq (HW.region [(0, .st), (1, .st), (2, .st), (3, .st), (4, .st)] rfl rfl ?_)
                  refine Plan.move (v := .int _ _) rfl rfl rfl ?_
                  refine Plan.move (v := .int _ _) rfl rfl rfl ?_
                  refine Plan.arithI rfl rfl rfl rfl rfl (by omega) ?_
                  refine Plan.move (v := .int _ _) rfl rfl rfl ?_
                  refine Plan.cmp2 rfl rfl rfl rfl rfl (fun h125 => ?_) (fun h125 => ?_)
                  · replace h125 := of_decide_eq_true h125
                    have hi : i < nxF p x := by omega
                    have he := plA_at p (j := j) hi
                    have hap := plN_succ p (nxF p x) (j * nxF p x + i)
                    rw [he] at hap
                    have hl := plN_len p (nxF p x) (j * nxF p x + i)
                    refine Plan.done ?_
                    refine HW.cond_true rfl ?_
                    refine HW.skip ?_
                    refine HW.seq ?_
                    refine HW.block ?_
                    refine HW.seq (HW.region [(0, .st), (1, .st), (2, .st), (3, .st), (4, .ef), (5, .al), (6, .ef)] rfl rfl ?_)
                    refine Plan.loadAll 1 rfl rfl aggGrid sizGrid rfl rfl rfl ?_
                    refine Plan.move (v := .int _ _) rfl rfl rfl ?_
                    refine Plan.move (v := .int _ _) rfl rfl rfl ?_
                    refine Plan.build rfl rfl rfl (bldV _ _) ?_
                    refine Plan.callF [] 0 rfl rfl rfl (.inl rfl) (by simp) (fun w hm => offset_ct a b d ((i : Int) - X1 p) ((j : Int) - Y1 p) w hg ⟨by omega, by omega⟩ ⟨by omega, by omega⟩) ?_   -- tinplate/blank.offset
                    rintro v Ln ⟨rfl, rfl⟩
                    refine Plan.alloc rfl zerV fun b21 => ?_
                    refine Plan.storeA 0 rfl rfl hDn sizV rfl rfl rfl rfl rfl rfl ?_
                    refine Plan.done ?_
                    refine HW.conv (Res.blk b21 #[int (offF (a, b, d) ((i : Int) - X1 p, (j : Int) - Y1 p)).1, int (offF (a, b, d) ((i : Int) - X1 p, (j : Int) - Y1 p)).2] 52 :: Res.mp vc evS b109 es3 :: Res.blk b5 #[int a, int b, int d] 26 :: (entK (offF (a, b, d) ((i : Int) - X1 p, (j : Int) - Y1 p)) nilE es3).1.map ownE) (fun w' hm => lay_add (offF (a, b, d) ((i : Int) - X1 p, (j : Int) - Y1 p)) es3 hm) ?_
                    refine HW.region [(0, .st), (1, .st), (2, .st), (3, .st), (4, .st), (5, .ef), (6, .ef), (7, .st), (8, .ef), (9, .st), (10, .ef)] rfl rfl ?_
                    refine Plan.move (v := .map _) rfl rfl rfl ?_
                    refine Plan.loadAll 0 rfl rfl aggV sizV rfl rfl rfl ?_
                    refine Plan.move (v := .int _ _) rfl rfl rfl ?_
                    refine Plan.move (v := .int _ _) rfl rfl rfl ?_
                    refine Plan.build rfl rfl rfl (bldV _ _) ?_
                    refine Plan.buildOwn (xs := [((i : Int) - X1 p, (j : Int) - Y1 p)]) (enc := enc) (sz := 2) rfl rfl rfl (bs1 _ _) rfl rfl (by simp) rfl fun b139 => ?_
                    refine Plan.mapEntry (ev' := evS) (k := (offF (a, b, d) ((i : Int) - X1 p, (j : Int) - Y1 p))) (nilE) rfl (2) (keysVec) undMap_api_Vec_api_Vec (zerSlV) rfl rfl hDn rfl rfl rfl (fun v140 hv140 => ?_)
                    have hvl := hi2.len hv140
                    refine Plan.extract (v := .slice _ _ _) rfl rfl rfl rfl ?_
                    refine Plan.append (enc := enc) (sz := 2) (ys := [((i : Int) - X1 p, (j : Int) - Y1 p)]) (((entK (offF (a, b, d) ((i : Int) - X1 p, (j : Int) - Y1 p)) nilE es3).2 + 4)) rfl rfl hDn slV infV rfl (by decide) enc2 enc1 (by
                        show ((entK (offF (a, b, d) ((i : Int) - X1 p, (j : Int) - Y1 p)) nilE es3).1.map ownE)[(entK (offF (a, b, d) ((i : Int) - X1 p, (j : Int) - Y1 p)) nilE es3).2]? = _
                        rw [List.getElem?_map, hv140]; rfl) rfl rfl rfl rfl (Sees.ownAll 0 rfl b139 rfl) (by simp; omega) (by simp; omega) fun o141 c141 => ?_
                    refine Plan.extract (v := .int _ _) rfl rfl rfl rfl ?_
                    refine Plan.entryStore (ek := vc) (ev' := evS) (v := (⟨o141, c141, v140.ys ++ [((i : Int) - X1 p, (j : Int) - Y1 p)]⟩ : LE)) (2) rfl rfl hDn rfl rfl ((show slv o141 (v140.ys.length + [((i : Int) - X1 p, (j : Int) - Y1 p)].length) c141 = slv o141 (v140.ys ++ [((i : Int) - X1 p, (j : Int) - Y1 p)]).length c141 from slv_eq (by simp))) rfl (hv140) ?_
                    refine Plan.done ?_
                    refine HW.region [(0, .st), (1, .st), (2, .st)] rfl rfl ?_
                    refine Plan.move (v := .int _ _) rfl rfl rfl ?_
                    refine Plan.arithI rfl rfl rfl rfl rfl (by omega) ?_
                    refine Plan.assign (v := .int _ _) rfl rfl rfl ?_
                    refine Plan.done ?_
                    exact ⟨⟨i + 1, (entK (offF (a, b, d) ((i : Int) - X1 p, (j : Int) - Y1 p)) nilE es3).1.set (entK (offF (a, b, d) ((i : Int) - X1 p, (j : Int) - Y1 p)) nilE es3).2 (offF (a, b, d) ((i : Int) - X1 p, (j : Int) - Y1 p), ⟨o141, c141, v140.ys ++ [((i : Int) - X1 p, (j : Int) - Y1 p)]⟩)⟩, by simp only; omega, ⟨hi, (by
                        show GrOK _ (plN p (nxF p x) (j * nxF p x + i + 1)) _
                        rw [hap]
                        exact hi2.step _ hv140 o141 c141)⟩, rfl, (fun w' hm => lay_set hm), (by repeat (first | exact Agree.havoc _ _ _ | refine Agree.updN ?_ | refine Agree.upd rfl ?_ | refine Agree.updL rfl ?_ | refine Agree.havoc2 rfl ?_)), ⟨int_eq (by dsimp only; push_cast; omega), trivial⟩⟩
                  · replace h125 := of_decide_eq_false h125
                    have hie : i = nxF p x := by omega
                    subst hie
                    have hs : j * nxF p x + nxF p x = (j + 1) * nxF p x := (Nat.succ_mul _ _).symm
                    rw [hs] at hi2
                    refine Plan.done ?_
                    refine HW.cond_false rfl ?_
                    refine HW.exit ?_
                    refine HW.region [(0, .st), (1, .st), (2, .st)] rfl rfl ?_
                    refine Plan.move (v := .int _ _) rfl rfl rfl ?_
                    refine Plan.arithI rfl rfl rfl rfl rfl (by omega) ?_
                    refine Plan.assign (v := .int _ _) rfl rfl rfl ?_
                    refine Plan.done ?_
                    exact ⟨⟨j + 1, es3⟩, by simp only; omega, ⟨hj, hi2⟩, rfl, Ent.sub (.refl _), (by repeat (first | exact Agree.havoc _ _ _ | refine Agree.updN ?_ | refine Agree.upd rfl ?_ | refine Agree.updL rfl ?_ | refine Agree.havoc2 rfl ?_)), ⟨int_eq (by dsimp only; push_cast; omega), trivial⟩⟩
                · replace h116 := of_decide_eq_false h116
                  have hje : j = nyF p y := by omega
                  subst hje
                  have hG : GrOK (offF (a, b, d)) (pls p x y) es := hj2
                  refine Plan.done ?_
                  refine HW.cond_false rfl ?_
                  refine HW.exit ?_
                  refine HW.seq (HW.region [(0, .st)] rfl rfl ?_)
                  refine Plan.assign (v := .slice _ _ _) rfl rfl rfl ?_
                  refine Plan.done ?_
                  refine HW.seq (HW.region [(0, .al)] rfl rfl ?_)
                  refine Plan.alloc rfl zerV fun b23 => ?_
                  refine Plan.done ?_
                  refine HW.seq ?_
                  refine HW.seq (HW.region [(0, .st), (1, .ef)] rfl rfl ?_)
                  refine Plan.move (v := .map _) rfl rfl rfl ?_
                  refine Plan.range (MapAt.own 1 rfl) undMap_api_Vec_api_Vec rfl rfl rfl fun r144 => ?_
                  refine Plan.done ?_
                  refine HW.block ?_
                  refine HW.loopL (G := LzG) [22, 24, 25, 145, 146, 147, 148, 149, 150, 151, 152, 153, 154, 155, 156, 157, 158, 159, 160, 161, 162, 163, 164, 165, 166, 167, 168, 169, 170, 171, 172, 173, 174, 175, 176, 177, 178, 179, 180, 181, 182, 183, 184] (fun g => [(22, .slice g.A g.n g.c)]) (fun g => Res.it r144 b109 es.length g.seen :: Res.blk b23 #[int g.f.1, int g.f.2] 52 :: Res.mp vc evS b109 es :: Res.blk b5 #[int a, int b, int d] 26 :: es.map ownE) (fun g => BestOK es g.seen g.A g.n g.c g.f) (fun g => fresh es.length g.seen) (⟨[], none, 0, 0, (0, 0)⟩) ⟨rfl, trivial⟩ (fun w' hm => hm) (.inl ⟨rfl, rfl, rfl, rfl, rfl⟩) (fun g F hok => ?_)
                  obtain ⟨seen, A4, n4, c4, f4⟩ := g
                  simp only at hok
                  dsimp only
                  refine HW.seq (HW.region [(0, .ef), (1, .st)] rfl rfl ?_)
                  refine Plan.next (MapAt.own 2 rfl) (0) rfl rfl hDn rfl rfl (fun hov145 => ?_) (fun j145 hj145 hns145 => ?_)
                  · skip
                    refine Plan.extract (v := .bool _) rfl rfl rfl rfl ?_
                    refine Plan.done ?_
                    refine HW.seq ?_
                    refine HW.cond_false rfl ?_
                    refine HW.exit ?_
                    refine HW.seq (HW.region [(0, .st), (1, .st), (2, .st)] rfl rfl ?_)
                    refine Plan.move (v := .slice _ _ _) rfl rfl rfl ?_
                    refine Plan.assign (v := .slice _ _ _) rfl rfl rfl ?_
                    refine Plan.assign (v := .int _ _) rfl rfl rfl ?_
                    refine Plan.done ?_
                    obtain ⟨o8, c8, ys8, rfl, rfl, rfl, hys, hent⟩ := lay_out hg hG hok hov145
                    refine HW.conv [ownV o8 c4 ys8] (fun w' hm => hent _ _ _ _ _ _ _ hm) ?_
                    exact HW.ret ⟨rfl, _, [ownV o8 c4 ys8], .tmp rfl (.tmp rfl .nil), List.Sublist.refl _, o8, c4, (by rw [hF, ← hys]; rfl), by rw [hF, ← hys]⟩
                  · skip
                    have hne := (hG.own j145 hj145).2
                    refine Plan.extract (v := .bool _) rfl rfl rfl rfl ?_
                    refine Plan.done ?_
                    refine HW.seq ?_
                    refine HW.cond_true rfl ?_
                    refine HW.skip ?_
                    refine HW.block ?_
                    refine HW.seq (HW.region [(0, .st), (1, .st), (2, .st), (3, .al), (4, .ef), (5, .st)] rfl rfl ?_)
                    refine Plan.entry (MapAt.own 2 rfl) (0) (hj145) rfl rfl rfl rfl ?_
                    refine Plan.extract (v := .agg _) rfl rfl rfl rfl ?_
                    refine Plan.extract (v := .slice _ _ _) rfl rfl rfl rfl ?_
                    refine Plan.alloc rfl zerV fun b24 => ?_
                    refine Plan.storeA 0 rfl rfl hDn sizV rfl rfl rfl rfl rfl rfl ?_
                    refine Plan.assign (v := .slice _ _ _) rfl rfl rfl ?_
                    refine Plan.done ?_
                    refine HW.seq (HW.region [(0, .st), (1, .st), (2, .st), (3, .st), (4, .st), (5, .st), (6, .st), (7, .st), (8, .st), (9, .st), (10, .st), (11, .st), (12, .st), (13, .st), (14, .st), (15, .st), (16, .st), (17, .st), (18, .st), (19, .st), (20, .st), (21, .st), (22, .st), (23, .st), (24, .st), (25, .st), (26, .st), (27, .st), (28, .st), (29, .st), (30, .st), (31, .st), (32, .st)] rfl rfl ?_)
                    refine Plan.move (v := .slice _ _ _) rfl rfl rfl ?_
                    refine Plan.len rfl rfl slV rfl ?_
                    refine Plan.move (v := .slice _ _ _) rfl rfl rfl ?_
                    refine Plan.len rfl rfl slV rfl ?_
                    refine Plan.cmp2 rfl rfl rfl rfl rfl (fun h154 => ?_) (fun h154 => ?_)
                    · replace h154 := of_decide_eq_true h154
                      refine Plan.move (v := .bool _) rfl rfl rfl ?_
                      refine Plan.no rfl rfl ?_
                      refine Plan.no rfl rfl ?_
                      refine Plan.no rfl rfl ?_
                      refine Plan.no rfl rfl ?_
                      refine Plan.no rfl rfl ?_
                      refine Plan.no rfl rfl ?_
                      refine Plan.no rfl rfl ?_
                      refine Plan.no rfl rfl ?_
                      refine Plan.no rfl rfl ?_
                      refine Plan.no rfl rfl ?_
                      refine Plan.no rfl rfl ?_
                      refine Plan.no rfl rfl ?_
                      refine Plan.no rfl rfl ?_
                      refine Plan.no rfl rfl ?_
                      refine Plan.no rfl rfl ?_
                      refine Plan.no rfl rfl ?_
                      refine Plan.no rfl rfl ?_
                      refine Plan.no rfl rfl ?_
                      refine Plan.no rfl rfl ?_
                      refine Plan.no rfl rfl ?_
                      refine Plan.no rfl rfl ?_
                      refine Plan.no rfl rfl ?_
                      refine Plan.no rfl rfl ?_
                      refine Plan.no rfl rfl ?_
                      refine Plan.no rfl rfl ?_
                      refine Plan.no rfl rfl ?_
                      refine Plan.pick (v := .bool _) rfl rfl rfl rfl ?_
                      refine Plan.done ?_
                      refine HW.cond_true rfl ?_
                      refine HW.region_any [3] [(0, .st), (1, .st), (2, .st), (3, .ef)] mix (by kernel_rfl) (fun _ _ _ _ _ h => h) (zeros rfl) ?_
                      refine Plan.move (v := .slice _ _ _) rfl rfl rfl ?_
                      refine Plan.loadAll 0 rfl rfl aggV sizV rfl rfl rfl ?_
                      refine Plan.assign (v := .slice _ _ _) rfl rfl rfl ?_
                      refine Plan.storeA 2 rfl rfl (hDs (by decide)) sizV rfl rfl rfl rfl rfl rfl ?_
                      refine Plan.done ?_
                      exact ⟨⟨seen ++ [j145], at0 es[j145].2.o, es[j145].2.ys.length, es[j145].2.c, es[j145].1⟩, fresh_lt hj145 hns145, hok.take hj145 (.inl (by omega)), rfl, Ent.sub (.cons _ (.refl _)), (by repeat (first | exact Agree.havoc _ _ _ | refine Agree.updN ?_ | refine Agree.upd rfl ?_ | refine Agree.updL rfl ?_ | refine Agree.havoc2 rfl ?_)), ⟨rfl, trivial⟩⟩
                    · replace h154 := of_decide_eq_false h154
                      refine Plan.move (v := .bool _) rfl rfl rfl ?_
                      refine Plan.move (v := .slice _ _ _) rfl rfl rfl ?_
                      refine Plan.len rfl rfl slV rfl ?_
                      refine Plan.move (v := .slice _ _ _) rfl rfl rfl ?_
                      refine Plan.len rfl rfl slV rfl ?_
                      refine Plan.cmp2 rfl rfl rfl rfl rfl (fun h160 => ?_) (fun h160 => ?_)
                      · replace h160 := of_decide_eq_true h160
                        refine Plan.move (v := .bool _) rfl rfl rfl ?_
                        refine Plan.fieldAddr rfl rfl fldV0 rfl ?_
                        refine Plan.load (v := .int _ _) rfl rfl aggI rfl (Sees.one 0 rfl rfl) ?_
                        refine Plan.fieldAddr rfl rfl fldV0 rfl ?_
                        refine Plan.load (v := .int _ _) rfl rfl aggI rfl (Sees.one 2 rfl rfl) ?_
                        refine Plan.cmp2 rfl rfl rfl rfl rfl (fun h166 => ?_) (fun h166 => ?_)
                        · replace h166 := of_decide_eq_true h166
                          refine Plan.move (v := .bool _) rfl rfl rfl ?_
                          refine Plan.no rfl rfl ?_
                          refine Plan.no rfl rfl ?_
                          refine Plan.no rfl rfl ?_
                          refine Plan.no rfl rfl ?_
                          refine Plan.no rfl rfl ?_
                          refine Plan.no rfl rfl ?_
                          refine Plan.no rfl rfl ?_
                          refine Plan.no rfl rfl ?_
                          refine Plan.no rfl rfl ?_
                          refine Plan.no rfl rfl ?_
                          refine Plan.no rfl rfl ?_
                          refine Plan.no rfl rfl ?_
                          refine Plan.pick (v := .bool _) rfl rfl rfl rfl ?_
                          refine Plan.pick (v := .bool _) rfl rfl rfl rfl ?_
                          refine Plan.pick (v := .bool _) rfl rfl rfl rfl ?_
                          refine Plan.done ?_
                          refine HW.cond_true rfl ?_
                          refine HW.region_any [3] [(0, .st), (1, .st), (2, .st), (3, .ef)] mix (by kernel_rfl) (fun _ _ _ _ _ h => h) (zeros rfl) ?_
                          refine Plan.move (v := .slice _ _ _) rfl rfl rfl ?_
                          refine Plan.loadAll 0 rfl rfl aggV sizV rfl rfl rfl ?_
                          refine Plan.assign (v := .slice _ _ _) rfl rfl rfl ?_
                          refine Plan.storeA 2 rfl rfl (hDs (by decide)) sizV rfl rfl rfl rfl rfl rfl ?_
                          refine Plan.done ?_
                          exact ⟨⟨seen ++ [j145], at0 es[j145].2.o, es[j145].2.ys.length, es[j145].2.c, es[j145].1⟩, fresh_lt hj145 hns145, hok.take hj145 (.inr ⟨by omega, .inl (by omega)⟩), rfl, Ent.sub (.cons _ (.refl _)), (by repeat (first | exact Agree.havoc _ _ _ | refine Agree.updN ?_ | refine Agree.upd rfl ?_ | refine Agree.updL rfl ?_ | refine Agree.havoc2 rfl ?_)), ⟨rfl, trivial⟩⟩
                        · replace h166 := of_decide_eq_false h166
                          refine Plan.move (v := .bool _) rfl rfl rfl ?_
                          refine Plan.fieldAddr rfl rfl fldV0 rfl ?_
                          refine Plan.load (v := .int _ _) rfl rfl aggI rfl (Sees.one 0 rfl rfl) ?_
                          refine Plan.fieldAddr rfl rfl fldV0 rfl ?_
                          refine Plan.load (v := .int _ _) rfl rfl aggI rfl (Sees.one 2 rfl rfl) ?_
                          refine Plan.cmp2 rfl rfl rfl rfl rfl (fun h172 => ?_) (fun h172 => ?_)
                          · replace h172 := of_decide_eq_true h172
                            refine Plan.move (v := .bool _) rfl rfl rfl ?_
                            refine Plan.fieldAddr rfl rfl fldV1 rfl ?_
                            refine Plan.load (v := .int _ _) rfl rfl aggI rfl (Sees.one 0 rfl rfl) ?_
                            refine Plan.fieldAddr rfl rfl fldV1 rfl ?_
                            refine Plan.load (v := .int _ _) rfl rfl aggI rfl (Sees.one 2 rfl rfl) ?_
                            refine Plan.cmp2 rfl rfl rfl rfl rfl (fun h178 => ?_) (fun h178 => ?_)
                            · replace h178 := of_decide_eq_true h178
                              refine Plan.pick (v := .bool _) rfl rfl rfl rfl ?_
                              refine Plan.pick (v := .bool _) rfl rfl rfl rfl ?_
                              refine Plan.pick (v := .bool _) rfl rfl rfl rfl ?_
                              refine Plan.pick (v := .bool _) rfl rfl rfl rfl ?_
                              refine Plan.done ?_
                              refine HW.cond_true rfl ?_
                              refine HW.region_any [3] [(0, .st), (1, .st), (2, .st), (3, .ef)] mix (by kernel_rfl) (fun _ _ _ _ _ h => h) (zeros rfl) ?_
                              refine Plan.move (v := .slice _ _ _) rfl rfl rfl ?_
                              refine Plan.loadAll 0 rfl rfl aggV sizV rfl rfl rfl ?_
                              refine Plan.assign (v := .slice _ _ _) rfl rfl rfl ?_
                              refine Plan.storeA 2 rfl rfl (hDs (by decide)) sizV rfl rfl rfl rfl rfl rfl ?_
                              refine Plan.done ?_
                              exact ⟨⟨seen ++ [j145], at0 es[j145].2.o, es[j145].2.ys.length, es[j145].2.c, es[j145].1⟩, fresh_lt hj145 hns145, hok.take hj145 (.inr ⟨by omega, .inr ⟨by omega, by omega⟩⟩), rfl, Ent.sub (.cons _ (.refl _)), (by repeat (first | exact Agree.havoc _ _ _ | refine Agree.updN ?_ | refine Agree.upd rfl ?_ | refine Agree.updL rfl ?_ | refine Agree.havoc2 rfl ?_)), ⟨rfl, trivial⟩⟩
                            · replace h178 := of_decide_eq_false h178
                              refine Plan.pick (v := .bool _) rfl rfl rfl rfl ?_
                              refine Plan.pick (v := .bool _) rfl rfl rfl rfl ?_
                              refine Plan.pick (v := .bool _) rfl rfl rfl rfl ?_
                              refine Plan.pick (v := .bool _) rfl rfl rfl rfl ?_
                              refine Plan.done ?_
                              refine HW.cond_false rfl ?_
                              refine HW.skip ?_
                              exact ⟨⟨seen ++ [j145], A4, n4, c4, f4⟩, fresh_lt hj145 hns145, hok.keep hj145 hne (by unfold lexlt; omega), rfl, Ent.sub (.cons _ (.refl _)), (by repeat (first | exact Agree.havoc _ _ _ | refine Agree.updN ?_ | refine Agree.upd rfl ?_ | refine Agree.updL rfl ?_ | refine Agree.havoc2 rfl ?_)), ⟨rfl, trivial⟩⟩
                          · replace h172 := of_decide_eq_false h172
                            refine Plan.move (v := .bool _) rfl rfl rfl ?_
                            refine Plan.no rfl rfl ?_
                            refine Plan.no rfl rfl ?_
                            refine Plan.no rfl rfl ?_
                            refine Plan.no rfl rfl ?_
                            refine Plan.no rfl rfl ?_
                            refine Plan.pick (v := .bool _) rfl rfl rfl rfl ?_
                            refine Plan.pick (v := .bool _) rfl rfl rfl rfl ?_
                            refine Plan.pick (v := .bool _) rfl rfl rfl rfl ?_
                            refine Plan.pick (v := .bool _) rfl rfl rfl rfl ?_
                            refine Plan.done ?_
                            refine HW.cond_false rfl ?_
                            refine HW.skip ?_
                            exact ⟨⟨seen ++ [j145], A4, n4, c4, f4⟩, fresh_lt hj145 hns145, hok.keep hj145 hne (by unfold lexlt; omega), rfl, Ent.sub (.cons _ (.refl _)), (by repeat (first | exact Agree.havoc _ _ _ | refine Agree.updN ?_ | refine Agree.upd rfl ?_ | refine Agree.updL rfl ?_ | refine Agree.havoc2 rfl ?_)), ⟨rfl, trivial⟩⟩
                      · replace h160 := of_decide_eq_false h160
                        refine Plan.move (v := .bool _) rfl rfl rfl ?_
                        refine Plan.no rfl rfl ?_
                        refine Plan.no rfl rfl ?_
                        refine Plan.no rfl rfl ?_
                        refine Plan.no rfl rfl ?_
                        refine Plan.no rfl rfl ?_
                        refine Plan.no rfl rfl ?_
                        refine Plan.no rfl rfl ?_
                        refine Plan.no rfl rfl ?_
                        refine Plan.no rfl rfl ?_
                        refine Plan.no rfl rfl ?_
                        refine Plan.no rfl rfl ?_
                        refine Plan.no rfl rfl ?_
                        refine Plan.no rfl rfl ?_
                        refine Plan.no rfl rfl ?_
                        refine Plan.no rfl rfl ?_
                        refine Plan.no rfl rfl ?_
                        refine Plan.no rfl rfl ?_
                        refine Plan.no rfl rfl ?_
                        refine Plan.no rfl rfl ?_
                        refine Plan.pick (v := .bool _) rfl rfl rfl rfl ?_
                        refine Plan.pick (v := .bool _) rfl rfl rfl rfl ?_
                        refine Plan.done ?_
                        refine HW.cond_false rfl ?_
                        refine HW.skip ?_
                        exact ⟨⟨seen ++ [j145], A4, n4, c4, f4⟩, fresh_lt hj145 hns145, hok.keep hj145 hne (by unfold lexlt; omega), rfl, Ent.sub (.cons _ (.refl _)), (by repeat (first | exact Agree.havoc _ _ _ | refine Agree.updN ?_ | refine Agree.upd rfl ?_ | refine Agree.updL rfl ?_ | refine Agree.havoc2 rfl ?_)), ⟨rfl, trivial⟩⟩
            · skip
              have hadm2 : admB p (a, b, d) = false := h52
              rw [hadm] at hadm2
              cases hadm2

theorem LayB_ct (A : Option Addr) (p : List Pt) (n c : Nat) (a b d x y : Int) (w : World) (hp : Rd enc 2 w A p) (hn : n = p.length) (hlen : p.length ≤ 1000000) :
    Ct P 27 #[.slice A n c, gdv a b d, int x, int y] w [] (fun r L => ∃ o c', r = .tuple #[slv o (LayF p (a, b, d) x y).1.length c', int (LayF p (a, b, d) x y).2] ∧ L = [ownV o c' (LayF p (a, b, d) x y).1]) := by
  rcases Bool.eq_false_or_eq_true (blankF p && goodG (a, b, d)) with hb | hb
  · simp only [Bool.and_eq_true] at hb
    rcases Bool.eq_false_or_eq_true (LayB p (a, b, d) x y) with hL | hL
    · simp only [LayB, Bool.and_eq_true, decide_eq_true_eq] at hL
      obtain ⟨⟨_, hadm⟩, h1, h2, h3, h4⟩ := hL
      exact LayB_ok A p n c a b d x y w hp hn hlen hb.1 hb.2 hadm ⟨h1, h2⟩ ⟨h3, h4⟩
    · exact LayB_bad A p n c a b d x y w hp hn hlen hb.1 hb.2 hL
  · exact LayB_no A p n c a b d x y w hp hn hlen hb

end Go.Proofs.Ytjmklbkcpjmcaaa.V
