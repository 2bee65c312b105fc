/-
  Package blank: admits, checked, Admissible.
-/
import Derived.Test.YtjmklbkcpjmcaaaB1
namespace Go.Proofs.Ytjmklbkcpjmcaaa.V
open Go Go.RowKit Go.Proofs.Ytjmklbkcpjmcaaa.H
set_option linter.unusedVariables false
set_option linter.unusedSimpArgs false

/-- how many numbers below n have not been seen -/
def fresh (n : Nat) (seen : List Nat) : Nat := ((List.range n).filter fun j => decide (j ∉ seen)).length
theorem fresh_lt {n j : Nat} {seen : List Nat} (hj : j < n) (hs : j ∉ seen) : fresh n (seen ++ [j]) < fresh n seen := by
  have e : ((List.range n).filter fun j => decide (j ∉ seen)).filter (fun i => decide (i ≠ j)) = (List.range n).filter fun i => decide (i ∉ seen ++ [j]) := by
    rw [List.filter_filter]
    congr 1
    funext i
    by_cases h1 : i = j <;> by_cases h2 : i ∈ seen <;> simp [h1, h2]
  unfold fresh
  rw [← e, List.length_filter_lt_length_iff_exists]
  exact ⟨j, by simp [hj, hs], by simp⟩

def admB (p : List Pt) (g : Gd) : Bool := !(hits p).any (hasG g)
theorem bx_bd (n : Nat) (h : n < 625) : Bd 12 (bx n).1 ∧ Bd 12 (bx n).2 := by
  simp only [bx, Bd]
  omega
theorem hits_bd {p : List Pt} {v : Pt} (h : v ∈ hits p) : Bd 12 v.1 ∧ Bd 12 v.2 := by
  simp only [hitsN, List.mem_filter, List.mem_map, List.mem_range] at h
  obtain ⟨⟨n, hn, rfl⟩, _⟩ := h
  exact bx_bd n hn
theorem Bd.mono {M N a : Int} (h : Bd M a) (hMN : M ≤ N) : Bd N a := by unfold Bd at *; omega

structure AdG where
  seen : List Nat

theorem admits_ct (sb : Nat) (A : Option Addr) (n c : Nat) (m : Nat) (l : List Pt) (a b d : Int) (w : World) (hs : w.heap[sb]? = some (.cells #[.slice A n c, .map (some m)] 96 (0, 0)))
    (hmap : w.heap[m]? = some (.map (ents vc Value.bool 0 (tag l)).toArray (tag l).length)) (hg : goodG (a, b, d) = true) (hl : ∀ v ∈ l, Bd 12 v.1 ∧ Bd 12 v.2) :
    Ct P 42 #[.pointer (some ⟨sb, 0, none⟩), gdv a b d] w [] (fun r L => r = .bool (!l.any (hasG (a, b, d))) ∧ L = []) := by
  refine Ct.of_body (rs := [.tmp 4]) (N := 18) (L := []) Try.func42 rfl rfl rfl (by kernel_rfl) rfl (Mem.refl w) ?_
  refine HW.seq (HW.region [(0, .ef), (1, .st)] rfl rfl ?_)
  refine Plan.boxA rfl rfl rfl fun b3 => ?_
  refine Plan.assign (v := .bool _) rfl rfl rfl ?_
  refine Plan.done ?_
  refine HW.seq ?_
  refine HW.seq (HW.region [(0, .st), (1, .st), (2, .st), (3, .st), (4, .ef)] rfl rfl ?_)
  refine Plan.move (v := .pointer _) rfl rfl rfl ?_
  refine Plan.nilCheck rfl rfl rfl ?_
  refine Plan.fieldAddr rfl rfl fldshape1 rfl ?_
  refine Plan.load (v := .map _) rfl rfl aggMap_api_Vec_bool rfl (Sees.oldOne hs (by simp) rfl) ?_
  refine Plan.range (MapAt.old hmap (by simp)) undMap_api_Vec_bool rfl rfl rfl fun r10 => ?_
  refine Plan.done ?_
  refine HW.block ?_
  refine HW.loopL (G := AdG) [4, 5, 11, 12, 13, 14, 15, 16, 17] (fun g => []) (fun g => [Res.it r10 m (tag l).length g.seen, Res.blk b3 #[int a, int b, int d] 26]) (fun g => ∀ j ∈ g.seen, ∀ h : j < l.length, hasG (a, b, d) l[j] = false) (fun g => fresh (tag l).length g.seen) (⟨[]⟩) trivial (fun w' hm => hm) (fun j hj => by simp at hj) (fun g F hok => ?_)
  obtain ⟨seen⟩ := g
  simp only at hok
  dsimp only
  refine HW.seq (HW.region [(0, .ef), (1, .st)] rfl rfl ?_)
  refine Plan.next (MapAt.old hmap (by simp)) (0) rfl rfl hDn rfl rfl (fun hov11 => ?_) (fun j11 hj11 hns11 => ?_)
  · skip
    refine Plan.extract (v := .bool _) rfl rfl rfl rfl ?_
    refine Plan.done ?_
    refine HW.seq ?_
    refine HW.cond_false rfl ?_
    refine HW.exit ?_
    refine HW.seq (HW.region [(0, .st)] rfl rfl ?_)
    refine Plan.assign (v := .bool _) rfl rfl rfl ?_
    refine Plan.done ?_
    exact HW.ret ⟨rfl, _, [], .tmp rfl .nil, List.nil_sublist _, (by
        have e : l.any (hasG (a, b, d)) = false := by
          rw [List.any_eq_false]
          intro v hv
          obtain ⟨j, hj, rfl⟩ := List.getElem_of_mem hv
          rw [hok j (hov11 j (by simpa [tag] using hj)) hj]
          decide
        rw [e]; rfl), rfl⟩
  · skip
    have hjl : j11 < l.length := by simpa [tag] using hj11
    have hv : (tag l)[j11].1 = l[j11] := by simp [tag]
    have hbd := hl l[j11] (List.getElem_mem hjl)
    rw [← hv] at hbd
    refine Plan.extract (v := .bool _) rfl rfl rfl rfl ?_
    refine Plan.done ?_
    refine HW.seq ?_
    refine HW.cond_true rfl ?_
    refine HW.skip ?_
    refine HW.block ?_
    refine HW.seq (HW.region [(0, .st), (1, .st), (2, .al), (3, .ef)] rfl rfl ?_)
    refine Plan.entry (MapAt.old hmap (by simp)) (0) (hj11) rfl rfl rfl rfl ?_
    refine Plan.extract (v := .agg _) rfl rfl rfl rfl ?_
    refine Plan.alloc rfl zerV fun b5 => ?_
    refine Plan.storeA 0 rfl rfl hDn sizV rfl rfl rfl rfl rfl rfl ?_
    refine Plan.done ?_
    refine HW.seq (HW.region [(0, .st), (1, .st), (2, .ef)] rfl rfl ?_)
    refine Plan.loadAll 2 rfl rfl aggGrid sizGrid rfl rfl rfl ?_
    refine Plan.loadAll 0 rfl rfl aggV sizV rfl rfl rfl ?_
    refine Plan.callF [] 0 rfl rfl rfl (.inl rfl) (by simp) (fun w hm => has_ct a b d _ _ w hg (hbd.1.mono (by omega)) (hbd.2.mono (by omega))) ?_   -- tinplate/blank.has
    rintro v Ln ⟨rfl, rfl⟩
    refine Plan.splitB (fun h17 => ?_) (fun h17 => ?_)
    · skip
      refine Plan.done ?_
      refine HW.cond_true rfl ?_
      refine HW.seq (HW.region [(0, .st)] rfl rfl ?_)
      refine Plan.assign (v := .bool _) rfl rfl rfl ?_
      refine Plan.done ?_
      exact HW.ret ⟨rfl, _, [], .tmp rfl .nil, List.nil_sublist _, (by
          have e : l.any (hasG (a, b, d)) = true := List.any_eq_true.2 ⟨l[j11], List.getElem_mem hjl, by rw [← hv]; exact h17⟩
          rw [e]; rfl), rfl⟩
    · skip
      refine Plan.done ?_
      refine HW.cond_false rfl ?_
      refine HW.skip ?_
      exact ⟨⟨seen ++ [j11]⟩, fresh_lt hj11 hns11, (fun j hj h => by
          rcases List.mem_append.1 hj with hj | hj
          · exact hok j hj h
          · obtain rfl := List.mem_singleton.1 hj
            rw [← hv]; exact h17), rfl, Ent.sub (.cons _ (.refl _)), (by repeat (first | exact Agree.havoc _ _ _ | refine Agree.updN ?_ | refine Agree.upd rfl ?_ | refine Agree.updL rfl ?_ | refine Agree.havoc2 rfl ?_)), trivial⟩

/-- what a blank is in memory -/
abbrev shapeL (A : Option Addr) (p : List Pt) (c sb m : Nat) : List Res := [Res.blk sb #[.slice A p.length c, .map (some m)] 96, Res.mp vc Value.bool m (tag (hits p))]

theorem checked_ct (A : Option Addr) (p : List Pt) (n c : Nat) (a b d : Int) (w : World) (hp : Rd enc 2 w A p) (hn : n = p.length) (hlen : p.length ≤ 1000000) (hb : blankF p = true) (hg : goodG (a, b, d) = true) :
    Ct P 52 #[.slice A n c, gdv a b d] w [] (fun r L => ∃ sb m, r = .tuple #[.pointer (some ⟨sb, 0, none⟩), int 0] ∧ L = shapeL A p c sb m) := by
  subst hn
  refine Ct.of_body (rs := [.tmp 4, .tmp 5]) (N := 21) (L := []) Try.func52 rfl rfl rfl (by kernel_rfl) rfl (Mem.refl w) ?_
  refine HW.seq (HW.region [(0, .ef), (1, .st), (2, .st)] rfl rfl ?_)
  refine Plan.boxA rfl rfl rfl fun b3 => ?_
  refine Plan.assign (v := .pointer _) rfl rfl rfl ?_
  refine Plan.assign (v := .int _ _) rfl rfl rfl ?_
  refine Plan.done ?_
  refine HW.seq (HW.region [(0, .st), (1, .ef), (2, .st), (3, .st), (4, .st), (5, .st), (6, .st)] rfl rfl ?_)
  refine Plan.move (v := .slice _ _ _) rfl rfl rfl ?_
  refine Plan.callF [] 0 rfl rfl rfl (.inl rfl) (by simp) (fun w hm => of_ct A p _ c w (hp.mem hm) rfl hlen hb) ?_   -- tinplate/blank.of
  rintro v Ln ⟨sb, m, rfl, rfl⟩
  refine Plan.move (v := .tuple _) rfl rfl rfl ?_
  refine Plan.extract (v := .pointer _) rfl rfl rfl rfl ?_
  refine Plan.extract (v := .bool _) rfl rfl rfl rfl ?_
  refine Plan.assign (v := .pointer _) rfl rfl rfl ?_
  refine Plan.assign (v := .bool _) rfl rfl rfl ?_
  refine Plan.done ?_
  refine HW.seq ?_
  refine HW.seq (HW.region [(0, .st), (1, .st), (2, .st), (3, .st), (4, .ef), (5, .st), (6, .st)] rfl rfl ?_)
  refine Plan.move (v := .bool _) rfl rfl rfl ?_
  refine Plan.not rfl rfl rfl ?_
  refine Plan.move (v := .bool _) rfl rfl rfl ?_
  refine Plan.loadAll 2 rfl rfl aggGrid sizGrid rfl rfl rfl ?_
  refine Plan.callF [] 0 rfl rfl rfl (.inl rfl) (by simp) (fun w hm => validG_ct a b d w) ?_   -- tinplate/blank.valid
  rintro v Ln ⟨rfl, rfl⟩
  refine Plan.splitB (fun h17 => ?_) (fun h17 => ?_)
  · skip
    refine Plan.not rfl rfl rfl ?_
    refine Plan.pick (v := .bool _) rfl rfl rfl rfl ?_
    refine Plan.done ?_
    refine HW.cond _ rfl (fun hc => ?_) (fun hc => ?_)
    · skip
      exact absurd hc (by decide)
    · skip
      refine HW.skip ?_
      refine HW.seq (HW.region [(0, .st), (1, .st), (2, .st)] rfl rfl ?_)
      refine Plan.move (v := .pointer _) rfl rfl rfl ?_
      refine Plan.assign (v := .pointer _) rfl rfl rfl ?_
      refine Plan.assign (v := .int _ _) rfl rfl rfl ?_
      refine Plan.done ?_
      exact HW.ret ⟨rfl, _, shapeL A p c sb m, .tmp rfl (.tmp rfl .nil), .cons_cons _ (.cons_cons _ (List.nil_sublist _)), sb, m, rfl, rfl⟩
  · skip
    exact absurd hg (by rw [h17]; decide)

theorem checked_ct_no (A : Option Addr) (p : List Pt) (n c : Nat) (a b d : Int) (w : World) (hp : Rd enc 2 w A p) (hn : n = p.length) (hlen : p.length ≤ 1000000) (hb : blankF p = false) :
    Ct P 52 #[.slice A n c, gdv a b d] w [] (fun r L => r = .tuple #[.pointer none, int 2] ∧ L = []) := by
  subst hn
  refine Ct.of_body (rs := [.tmp 4, .tmp 5]) (N := 21) (L := []) Try.func52 rfl rfl rfl (by kernel_rfl) rfl (Mem.refl w) ?_
  refine HW.seq (HW.region [(0, .ef), (1, .st), (2, .st)] rfl rfl ?_)
  refine Plan.boxA rfl rfl rfl fun b3 => ?_
  refine Plan.assign (v := .pointer _) rfl rfl rfl ?_
  refine Plan.assign (v := .int _ _) rfl rfl rfl ?_
  refine Plan.done ?_
  refine HW.seq (HW.region [(0, .st), (1, .ef), (2, .st), (3, .st), (4, .st), (5, .st), (6, .st)] rfl rfl ?_)
  refine Plan.move (v := .slice _ _ _) rfl rfl rfl ?_
  refine Plan.callF [] 0 rfl rfl rfl (.inl rfl) (by simp) (fun w hm => of_ct_no A p _ c w (hp.mem hm) rfl hlen hb) ?_   -- tinplate/blank.of
  rintro v Ln ⟨rfl, rfl⟩
  refine Plan.move (v := .tuple _) rfl rfl rfl ?_
  refine Plan.extract (v := .pointer _) rfl rfl rfl rfl ?_
  refine Plan.extract (v := .bool _) rfl rfl rfl rfl ?_
  refine Plan.assign (v := .pointer _) rfl rfl rfl ?_
  refine Plan.assign (v := .bool _) rfl rfl rfl ?_
  refine Plan.done ?_
  refine HW.seq ?_
  refine HW.seq (HW.region [(0, .st), (1, .st), (2, .st), (3, .st), (4, .ef), (5, .st), (6, .st)] rfl rfl ?_)
  refine Plan.move (v := .bool _) rfl rfl rfl ?_
  refine Plan.not rfl rfl rfl ?_
  refine Plan.move (v := .bool _) rfl rfl rfl ?_
  refine Plan.no rfl rfl ?_
  refine Plan.noE rfl rfl ?_
  refine Plan.no rfl rfl ?_
  refine Plan.pick (v := .bool _) rfl rfl rfl rfl ?_
  refine Plan.done ?_
  refine HW.cond_true rfl ?_
  refine HW.seq (HW.region [(0, .st), (1, .st)] rfl rfl ?_)
  refine Plan.assign (v := .pointer _) rfl rfl rfl ?_
  refine Plan.assign (v := .int _ _) rfl rfl rfl ?_
  refine Plan.done ?_
  exact HW.ret ⟨rfl, _, [], .tmp rfl (.tmp rfl .nil), List.nil_sublist _, rfl, rfl⟩

theorem checked_ct_bad (A : Option Addr) (p : List Pt) (n c : Nat) (a b d : Int) (w : World) (hp : Rd enc 2 w A p) (hn : n = p.length) (hlen : p.length ≤ 1000000) (hb : blankF p = true) (hg : goodG (a, b, d) = false) :
    Ct P 52 #[.slice A n c, gdv a b d] w [] (fun r L => r = .tuple #[.pointer none, int 2] ∧ L = []) := by
  subst hn
  refine Ct.of_body (rs := [.tmp 4, .tmp 5]) (N := 21) (L := []) Try.func52 rfl rfl rfl (by kernel_rfl) rfl (Mem.refl w) ?_
  refine HW.seq (HW.region [(0, .ef), (1, .st), (2, .st)] rfl rfl ?_)
  refine Plan.boxA rfl rfl rfl fun b3 => ?_
  refine Plan.assign (v := .pointer _) rfl rfl rfl ?_
  refine Plan.assign (v := .int _ _) rfl rfl rfl ?_
  refine Plan.done ?_
  refine HW.seq (HW.region [(0, .st), (1, .ef), (2, .st), (3, .st), (4, .st), (5, .st), (6, .st)] rfl rfl ?_)
  refine Plan.move (v := .slice _ _ _) rfl rfl rfl ?_
  refine Plan.callF [] 0 rfl rfl rfl (.inl rfl) (by simp) (fun w hm => of_ct A p _ c w (hp.mem hm) rfl hlen hb) ?_   -- tinplate/blank.of
  rintro v Ln ⟨sb, m, rfl, rfl⟩
  refine Plan.move (v := .tuple _) rfl rfl rfl ?_
  refine Plan.extract (v := .pointer _) rfl rfl rfl rfl ?_
  refine Plan.extract (v := .bool _) rfl rfl rfl rfl ?_
  refine Plan.assign (v := .pointer _) rfl rfl rfl ?_
  refine Plan.assign (v := .bool _) rfl rfl rfl ?_
  refine Plan.done ?_
  refine HW.seq ?_
  refine HW.seq (HW.region [(0, .st), (1, .st), (2, .st), (3, .st), (4, .ef), (5, .st), (6, .st)] rfl rfl ?_)
  refine Plan.move (v := .bool _) rfl rfl rfl ?_
  refine Plan.not rfl rfl rfl ?_
  refine Plan.move (v := .bool _) rfl rfl rfl ?_
  refine Plan.loadAll 2 rfl rfl aggGrid sizGrid rfl rfl rfl ?_
  refine Plan.callF [] 0 rfl rfl rfl (.inl rfl) (by simp) (fun w hm => validG_ct a b d w) ?_   -- tinplate/blank.valid
  rintro v Ln ⟨rfl, rfl⟩
  refine Plan.splitB (fun h17 => ?_) (fun h17 => ?_)
  · skip
    exact absurd h17 (by rw [hg]; decide)
  · skip
    refine Plan.not rfl rfl rfl ?_
    refine Plan.pick (v := .bool _) rfl rfl rfl rfl ?_
    refine Plan.done ?_
    refine HW.cond _ rfl (fun hc => ?_) (fun hc => ?_)
    · skip
      refine HW.seq (HW.region [(0, .st), (1, .st)] rfl rfl ?_)
      refine Plan.assign (v := .pointer _) rfl rfl rfl ?_
      refine Plan.assign (v := .int _ _) rfl rfl rfl ?_
      refine Plan.done ?_
      exact HW.ret ⟨rfl, _, [], .tmp rfl (.tmp rfl .nil), List.nil_sublist _, rfl, rfl⟩
    · skip
      exact absurd hc (by decide)

def AdmissibleF (p : List Pt) (g : Gd) : Bool × Int := if blankF p && goodG g then (admB p g, 0) else (false, 2)

theorem Admissible_ok (A : Option Addr) (p : List Pt) (n c : Nat) (a b d : Int) (w : World) (hp : Rd enc 2 w A p) (hn : n = p.length) (hlen : p.length ≤ 1000000) (hb : blankF p = true) (hg : goodG (a, b, d) = true) :
    Ct P 22 #[.slice A n c, gdv a b d] w [] (fun r L => r = .tuple #[.bool (admB p (a, b, d)), int 0] ∧ L = []) := by
  subst hn
  refine Ct.of_body (rs := [.tmp 4, .tmp 5]) (N := 20) (L := []) Try.func22 rfl rfl rfl (by kernel_rfl) rfl (Mem.refl w) ?_
  refine HW.seq (HW.region [(0, .ef), (1, .st), (2, .st)] rfl rfl ?_)
  refine Plan.boxA rfl rfl rfl fun b3 => ?_
  refine Plan.assign (v := .bool _) rfl rfl rfl ?_
  refine Plan.assign (v := .int _ _) rfl rfl rfl ?_
  refine Plan.done ?_
  refine HW.seq (HW.region [(0, .st), (1, .st), (2, .ef), (3, .st), (4, .st), (5, .st), (6, .st), (7, .st)] rfl rfl ?_)
  refine Plan.move (v := .slice _ _ _) rfl rfl rfl ?_
  refine Plan.loadAll 0 rfl rfl aggGrid sizGrid rfl rfl rfl ?_
  refine Plan.callF [] 0 rfl rfl rfl (.inl rfl) (by simp) (fun w hm => checked_ct A p _ c a b d w (hp.mem hm) rfl hlen hb hg) ?_   -- tinplate/blank.checked
  rintro v Ln ⟨sb, m, rfl, rfl⟩
  refine Plan.move (v := .tuple _) rfl rfl rfl ?_
  refine Plan.extract (v := .pointer _) rfl rfl rfl rfl ?_
  refine Plan.extract (v := .int _ _) rfl rfl rfl rfl ?_
  refine Plan.assign (v := .pointer _) rfl rfl rfl ?_
  refine Plan.assign (v := .int _ _) rfl rfl rfl ?_
  refine Plan.done ?_
  refine HW.seq ?_
  refine HW.seq (HW.region [(0, .st), (1, .st)] rfl rfl ?_)
  refine Plan.move (v := .int _ _) rfl rfl rfl ?_
  refine Plan.cmp2 rfl rfl rfl rfl rfl (fun h15 => ?_) (fun h15 => ?_)
  · replace h15 := ne_of_t h15
    exact absurd rfl h15
  · replace h15 := eq_of_f h15
    refine Plan.done ?_
    refine HW.cond_false rfl ?_
    refine HW.skip ?_
    refine HW.seq (HW.region [(0, .st), (1, .st), (2, .ef), (3, .st), (4, .st)] rfl rfl ?_)
    refine Plan.move (v := .pointer _) rfl rfl rfl ?_
    refine Plan.loadAll 2 rfl rfl aggGrid sizGrid rfl rfl rfl ?_
    refine Plan.callF [] 0 rfl rfl rfl (.inl rfl) (by simp) (fun w hm => admits_ct sb A _ c m (hits p) a b d w (hm.res _ List.mem_cons_self) (hm.res (Res.mp vc Value.bool m (tag (hits p))) (by simp)) hg (fun v hv => hits_bd hv)) ?_   -- (*tinplate/blank.shape).admits
    rintro v Ln ⟨rfl, rfl⟩
    refine Plan.splitB (fun h19 => ?_) (fun h19 => ?_)
    · skip
      refine Plan.assign (v := .bool _) rfl rfl rfl ?_
      refine Plan.assign (v := .int _ _) rfl rfl rfl ?_
      refine Plan.done ?_
      exact HW.ret ⟨rfl, _, [], .tmp rfl (.tmp rfl .nil), List.nil_sublist _, (by rw [admB, h19]; rfl), rfl⟩
    · skip
      refine Plan.assign (v := .bool _) rfl rfl rfl ?_
      refine Plan.assign (v := .int _ _) rfl rfl rfl ?_
      refine Plan.done ?_
      exact HW.ret ⟨rfl, _, [], .tmp rfl (.tmp rfl .nil), List.nil_sublist _, (by rw [admB, h19]; rfl), rfl⟩

theorem Admissible_bad (A : Option Addr) (p : List Pt) (n c : Nat) (a b d : Int) (w : World) (hp : Rd enc 2 w A p) (hn : n = p.length) (hlen : p.length ≤ 1000000) (hb : blankF p = true) (hg : goodG (a, b, d) = false) :
    Ct P 22 #[.slice A n c, gdv a b d] w [] (fun r L => r = .tuple #[.bool false, int 2] ∧ L = []) := by
  subst hn
  refine Ct.of_body (rs := [.tmp 4, .tmp 5]) (N := 20) (L := []) Try.func22 rfl rfl rfl (by kernel_rfl) rfl (Mem.refl w) ?_
  refine HW.seq (HW.region [(0, .ef), (1, .st), (2, .st)] rfl rfl ?_)
  refine Plan.boxA rfl rfl rfl fun b3 => ?_
  refine Plan.assign (v := .bool _) rfl rfl rfl ?_
  refine Plan.assign (v := .int _ _) rfl rfl rfl ?_
  refine Plan.done ?_
  refine HW.seq (HW.region [(0, .st), (1, .st), (2, .ef), (3, .st), (4, .st), (5, .st), (6, .st), (7, .st)] rfl rfl ?_)
  refine Plan.move (v := .slice _ _ _) rfl rfl rfl ?_
  refine Plan.loadAll 0 rfl rfl aggGrid sizGrid rfl rfl rfl ?_
  refine Plan.callF [] 0 rfl rfl rfl (.inl rfl) (by simp) (fun w hm => checked_ct_bad A p _ c a b d w (hp.mem hm) rfl hlen hb hg) ?_   -- tinplate/blank.checked
  rintro v Ln ⟨rfl, rfl⟩
  refine Plan.move (v := .tuple _) rfl rfl rfl ?_
  refine Plan.extract (v := .pointer _) rfl rfl rfl rfl ?_
  refine Plan.extract (v := .int _ _) rfl rfl rfl rfl ?_
  refine Plan.assign (v := .pointer _) rfl rfl rfl ?_
  refine Plan.assign (v := .int _ _) rfl rfl rfl ?_
  refine Plan.done ?_
  refine HW.seq ?_
  refine HW.seq (HW.region [(0, .st), (1, .st)] rfl rfl ?_)
  refine Plan.move (v := .int _ _) rfl rfl rfl ?_
  refine Plan.cmp2 rfl rfl rfl rfl rfl (fun h15 => ?_) (fun h15 => ?_)
  · replace h15 := ne_of_t h15
    refine Plan.done ?_
    refine HW.cond_true rfl ?_
    refine HW.seq (HW.region [(0, .st), (1, .st), (2, .st)] rfl rfl ?_)
    refine Plan.move (v := .int _ _) rfl rfl rfl ?_
    refine Plan.assign (v := .bool _) rfl rfl rfl ?_
    refine Plan.assign (v := .int _ _) rfl rfl rfl ?_
    refine Plan.done ?_
    exact HW.ret ⟨rfl, _, [], .tmp rfl (.tmp rfl .nil), List.nil_sublist _, rfl, rfl⟩
  · replace h15 := eq_of_f h15
    exact absurd h15 (by decide)

theorem Admissible_no (A : Option Addr) (p : List Pt) (n c : Nat) (a b d : Int) (w : World) (hp : Rd enc 2 w A p) (hn : n = p.length) (hlen : p.length ≤ 1000000) (hb : blankF p = false) :
    Ct P 22 #[.slice A n c, gdv a b d] w [] (fun r L => r = .tuple #[.bool false, int 2] ∧ L = []) := by
  subst hn
  refine Ct.of_body (rs := [.tmp 4, .tmp 5]) (N := 20) (L := []) Try.func22 rfl rfl rfl (by kernel_rfl) rfl (Mem.refl w) ?_
  refine HW.seq (HW.region [(0, .ef), (1, .st), (2, .st)] rfl rfl ?_)
  refine Plan.boxA rfl rfl rfl fun b3 => ?_
  refine Plan.assign (v := .bool _) rfl rfl rfl ?_
  refine Plan.assign (v := .int _ _) rfl rfl rfl ?_
  refine Plan.done ?_
  refine HW.seq (HW.region [(0, .st), (1, .st), (2, .ef), (3, .st), (4, .st), (5, .st), (6, .st), (7, .st)] rfl rfl ?_)
  refine Plan.move (v := .slice _ _ _) rfl rfl rfl ?_
  refine Plan.loadAll 0 rfl rfl aggGrid sizGrid rfl rfl rfl ?_
  refine Plan.callF [] 0 rfl rfl rfl (.inl rfl) (by simp) (fun w hm => checked_ct_no A p _ c a b d w (hp.mem hm) rfl hlen hb) ?_   -- tinplate/blank.checked
  rintro v Ln ⟨rfl, rfl⟩
  refine Plan.move (v := .tuple _) rfl rfl rfl ?_
  refine Plan.extract (v := .pointer _) rfl rfl rfl rfl ?_
  refine Plan.extract (v := .int _ _) rfl rfl rfl rfl ?_
  refine Plan.assign (v := .pointer _) rfl rfl rfl ?_
  refine Plan.assign (v := .int _ _) rfl rfl rfl ?_
  refine Plan.done ?_
  refine HW.seq ?_
  refine HW.seq (HW.region [(0, .st), (1, .st)] rfl rfl ?_)
  refine Plan.move (v := .int _ _) rfl rfl rfl ?_
  refine Plan.cmp2 rfl rfl rfl rfl rfl (fun h15 => ?_) (fun h15 => ?_)
  · replace h15 := ne_of_t h15
    refine Plan.done ?_
    refine HW.cond_true rfl ?_
    refine HW.seq (HW.region [(0, .st), (1, .st), (2, .st)] rfl rfl ?_)
    refine Plan.move (v := .int _ _) rfl rfl rfl ?_
    refine Plan.assign (v := .bool _) rfl rfl rfl ?_
    refine Plan.assign (v := .int _ _) rfl rfl rfl ?_
    refine Plan.done ?_
    exact HW.ret ⟨rfl, _, [], .tmp rfl (.tmp rfl .nil), List.nil_sublist _, rfl, rfl⟩
  · replace h15 := eq_of_f h15
    exact absurd h15 (by decide)

theorem Admissible_ct (A : Option Addr) (p : List Pt) (n c : Nat) (a b d : Int) (w : World) (hp : Rd enc 2 w A p) (hn : n = p.length) (hlen : p.length ≤ 1000000) :
    Ct P 22 #[.slice A n c, gdv a b d] w [] (fun r L => r = .tuple #[.bool (AdmissibleF p (a, b, d)).1, int (AdmissibleF p (a, b, d)).2] ∧ L = []) := by
  rcases Bool.eq_false_or_eq_true (blankF p) with hb | hb
  · rcases Bool.eq_false_or_eq_true (goodG (a, b, d)) with hg | hg
    · have hF : AdmissibleF p (a, b, d) = (admB p (a, b, d), 0) := by rw [AdmissibleF, if_pos (by rw [hb, hg]; rfl)]
      simp only [hF]
      exact Admissible_ok A p n c a b d w hp hn hlen hb hg
    · have hF : AdmissibleF p (a, b, d) = (false, 2) := by rw [AdmissibleF, if_neg (by rw [hb, hg]; decide)]
      simp only [hF]
      exact Admissible_bad A p n c a b d w hp hn hlen hb hg
  · have hF : AdmissibleF p (a, b, d) = (false, 2) := by rw [AdmissibleF, if_neg (by rw [hb, Bool.false_and]; decide)]
    simp only [hF]
    exact Admissible_no A p n c a b d w hp hn hlen hb

end Go.Proofs.Ytjmklbkcpjmcaaa.V
