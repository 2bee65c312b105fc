/-
  parted, Overlap, Separate, Inside.
-/
import Derived.Test.YtjmklbkcpjmcaaaV10
namespace Go.Proofs.Ytjmklbkcpjmcaaa.V
open Go Go.RowKit Go.Proofs.Ytjmklbkcpjmcaaa.H
set_option linter.unusedVariables false
set_option linter.unusedSimpArgs false

theorem aggVecbool (w : World) : (isAgg 103).run P w = .ok false w := by kernel_rfl
theorem sizVecbool (w : World) : (sizeOf 103).run P w = .ok 1 w := by kernel_rfl
theorem zerVecbool (w : World) : (zeroValue 103).run P w = .ok .nilFunc w := by kernel_rfl

/-- does a direction separate p from q? -/
def sepB (p q : List Pt) (d : Pt) : Bool := decide ((extF p d).1 ≤ -(extF q (vNeg d)).1)

theorem dot_bd {a b : Pt} (ha : Bd2 100000 a.1 a.2) (hb : Bd2 100000 b.1 b.2) : -20000000000 ≤ dotP a b ∧ dotP a b ≤ 20000000000 := by
  have e1 := mul_bd ha.1 hb.1
  have e2 := mul_bd ha.2 hb.2
  unfold dotP dotI
  omega

theorem extF_bd {ps : List Pt} {d : Pt} (h0 : 0 < ps.length) (hb : ∀ v ∈ ps, Bd2 100000 v.1 v.2) (hd : Bd2 100000 d.1 d.2) : -20000000000 ≤ (extF ps d).1 ∧ (extF ps d).1 ≤ 20000000000 := by
  have hel := extAt_lt ps d ps.length
  exact dot_bd hd (hb _ (nth_mem (by omega)))

theorem sep_ct (a1 a2 : Addr) (p q : List Pt) (n1 c1 n2 c2 : Nat) (d : Pt) (bp bq : Nat) (w : World) (hp : Rd enc 2 w (some a1) p) (hq : Rd enc 2 w (some a2) q) (hn1 : n1 = p.length) (hn2 : n2 = q.length) (h01 : 0 < p.length) (h02 : 0 < q.length)
    (hl1 : p.length ≤ 1000000) (hl2 : q.length ≤ 1000000) (hb1 : ∀ v ∈ p, Bd2 100000 v.1 v.2) (hb2 : ∀ v ∈ q, Bd2 100000 v.1 v.2) (hd : Bd2 100000 d.1 d.2)
    (hbp : w.heap[bp]? = some (.cells #[.slice (some a1) n1 c1] 22 (0, 0))) (hbq : w.heap[bq]? = some (.cells #[.slice (some a2) n2 c2] 22 (0, 0))) :
    Ct P 92 #[vc d, .pointer (some ⟨bp, 0, none⟩), .pointer (some ⟨bq, 0, none⟩)] w [] (fun v L => v = .bool (sepB p q d) ∧ L = []) := by
  subst hn1 hn2
  have hbox1 : Lies w ⟨bp, 0, none⟩ [.slice (some a1) p.length c1] := fun j u hu => by
    rw [Addr.add_lit, cell_of_heap hbp, Nat.zero_add]
    simpa using hu
  have hbox2 : Lies w ⟨bq, 0, none⟩ [.slice (some a2) q.length c2] := fun j u hu => by
    rw [Addr.add_lit, cell_of_heap hbq, Nat.zero_add]
    simpa using hu
  have hnd : Bd2 100000 (vNeg d).1 (vNeg d).2 := by
    obtain ⟨⟨_, _⟩, ⟨_, _⟩⟩ := hd
    exact ⟨⟨by simp only [vNeg]; omega, by simp only [vNeg]; omega⟩, ⟨by simp only [vNeg]; omega, by simp only [vNeg]; omega⟩⟩
  have hx2 := extF_bd h02 hb2 hnd
  refine Ct.of_body (rs := [.tmp 4]) (N := 27) (L := []) Try.func92 rfl rfl rfl (by kernel_rfl) rfl (Mem.refl w) ?_
  refine HW.seq (HW.region [(0, .ef), (1, .st)] rfl rfl ?_)
  refine Plan.boxA rfl rfl rfl fun b3 => ?_
  refine Plan.assign (v := .bool _) rfl rfl rfl ?_
  refine Plan.done ?_
  refine HW.seq (HW.region [(0, .st), (1, .st), (2, .ef), (3, .st), (4, .st), (5, .st), (6, .st), (7, .st)] rfl rfl ?_)
  refine Plan.load (v := .slice _ _ _) rfl rfl agg_api_Vec rfl (Sees.old hbox1 (by simp)) ?_
  refine Plan.loadAll 0 rfl rfl aggV sizV rfl rfl rfl ?_
  refine Plan.callF [] 0 rfl rfl rfl (.inl rfl) (by simp) (fun w hm => extreme_ct a1 p d _ c1 w (hp.mem hm) rfl h01 hl1 hb1 hd) ?_   -- tinplate/convex.extreme
  rintro v Ln ⟨rfl, rfl⟩
  refine Plan.move (v := .tuple _) rfl rfl rfl ?_
  refine Plan.extract (v := .int _ _) rfl rfl rfl rfl ?_
  refine Plan.extract (v := .int _ _) rfl rfl rfl rfl ?_
  refine Plan.assign (v := .int _ _) rfl rfl rfl ?_
  refine Plan.assign (v := .int _ _) rfl rfl rfl ?_
  refine Plan.done ?_
  refine HW.seq (HW.region_any [] [(0, .st), (1, .st), (2, .st), (3, .ef), (4, .ef), (5, .st), (6, .st), (7, .st), (8, .st), (9, .st)] mix (by kernel_rfl) (fun _ _ _ _ _ h => h) (zeros rfl) ?_)
  refine Plan.load (v := .slice _ _ _) rfl rfl agg_api_Vec rfl (Sees.old hbox2 (by simp)) ?_
  refine Plan.build rfl rfl rfl (bld0) ?_
  refine Plan.loadAll 0 rfl rfl aggV sizV rfl rfl rfl ?_
  refine Plan.callF [] 0 rfl rfl rfl (.inl rfl) (by simp) (fun w hm => minus_ct 0 0 _ _ w ⟨⟨by omega, by omega⟩, ⟨by omega, by omega⟩⟩ (hd.mono (by omega))) ?_   -- tinplate/convex.minus
  rintro v Ln ⟨rfl, rfl⟩
  refine Plan.callF [] 0 rfl rfl rfl (.inl rfl) (by simp) (fun w hm => extreme_ct a2 q (vNeg d) _ c2 w (hq.mem hm) rfl h02 hl2 hb2 hnd) ?_   -- tinplate/convex.extreme
  rintro v Ln ⟨rfl, rfl⟩
  refine Plan.move (v := .tuple _) rfl rfl rfl ?_
  refine Plan.extract (v := .int _ _) rfl rfl rfl rfl ?_
  refine Plan.extract (v := .int _ _) rfl rfl rfl rfl ?_
  refine Plan.assign (v := .int _ _) rfl rfl rfl ?_
  refine Plan.assign (v := .int _ _) rfl rfl rfl ?_
  refine Plan.done ?_
  refine HW.seq (HW.region [(0, .st), (1, .st), (2, .st), (3, .st), (4, .st)] rfl rfl ?_)
  refine Plan.move (v := .int _ _) rfl rfl rfl ?_
  refine Plan.move (v := .int _ _) rfl rfl rfl ?_
  refine Plan.neg rfl rfl rfl (by omega) ?_
  refine Plan.cmp2 rfl rfl rfl rfl rfl (fun h26 => ?_) (fun h26 => ?_)
  · replace h26 := of_decide_eq_true h26
    refine Plan.assign (v := .bool _) rfl rfl rfl ?_
    refine Plan.done ?_
    exact HW.ret ⟨rfl, _, [], .tmp rfl .nil, List.nil_sublist _, (by rw [sepB, decide_eq_true h26]; rfl), rfl⟩
  · replace h26 := of_decide_eq_false h26
    refine Plan.assign (v := .bool _) rfl rfl rfl ?_
    refine Plan.done ?_
    exact HW.ret ⟨rfl, _, [], .tmp rfl .nil, List.nil_sublist _, (by rw [sepB, decide_eq_false h26]; rfl), rfl⟩

def dirP (p : List Pt) (k : Nat) : Pt := (((nx p k).2 - (nth p k).2), -((nx p k).1 - (nth p k).1))
def dirQ (q : List Pt) (k : Nat) : Pt := (-((nx q k).2 - (nth q k).2), ((nx q k).1 - (nth q k).1))
def firstD (f : Nat → Pt) (s : Pt → Bool) (n : Nat) : Option Pt := ((List.range n).map f).find? s
def partedF (p q : List Pt) : Pt × Bool :=
  match firstD (dirP p) (sepB p q) p.length with
  | some d => (d, true)
  | none => match firstD (dirQ q) (sepB p q) q.length with
    | some d => (d, true)
    | none => ((0, 0), false)

theorem firstD_some {f : Nat → Pt} {s : Pt → Bool} {n k : Nat} (hk : k < n) (h : s (f k) = true) (hno : ∀ j, j < k → s (f j) = false) : firstD f s n = some (f k) := by
  unfold firstD
  rw [List.find?_eq_some_iff_getElem]
  refine ⟨h, k, by simpa using hk, by simp, fun j hj => ?_⟩
  simp [hno j hj]

theorem firstD_none {f : Nat → Pt} {s : Pt → Bool} {n : Nat} (hno : ∀ j, j < n → s (f j) = false) : firstD f s n = none := by
  unfold firstD
  rw [List.find?_eq_none]
  intro x hx
  obtain ⟨j, hj, rfl⟩ := List.mem_map.1 hx
  simp [hno j (List.mem_range.1 hj)]

structure PaG where
  d : Pt
  ok : Bool

theorem parted_ct (a1 a2 : Addr) (p q : List Pt) (n1 c1 n2 c2 : Nat) (w : World) (hp : Rd enc 2 w (some a1) p) (hq : Rd enc 2 w (some a2) q) (hn1 : n1 = p.length) (hn2 : n2 = q.length) (h01 : 0 < p.length) (h02 : 0 < q.length)
    (hl1 : p.length ≤ 1000000) (hl2 : q.length ≤ 1000000) (hb1 : ∀ v ∈ p, Bd2 10000 v.1 v.2) (hb2 : ∀ v ∈ q, Bd2 10000 v.1 v.2) :
    Ct P 70 #[.slice (some a1) n1 c1, .slice (some a2) n2 c2] w [] (fun r L => r = .tuple #[vc (partedF p q).1, .bool (partedF p q).2] ∧ L = []) := by
  subst hn1 hn2
  have hB1 : ∀ v ∈ p, Bd2 100000 v.1 v.2 := fun v hv => (hb1 v hv).mono (by omega)
  have hB2 : ∀ v ∈ q, Bd2 100000 v.1 v.2 := fun v hv => (hb2 v hv).mono (by omega)
  refine Ct.of_bodyM (rs := [.cell 4 52, .cell 5 4]) (N := 57) (L := []) Try.func70 rfl rfl rfl (by kernel_rfl) rfl (Mem.refl w) ?_
  refine HW.seq (HW.region [(0, .ef), (1, .ef), (2, .al), (3, .al)] rfl rfl ?_)
  refine Plan.boxS rfl rfl rfl fun b2 => ?_
  refine Plan.boxS rfl rfl rfl fun b3 => ?_
  refine Plan.alloc rfl zerV fun b4 => ?_
  refine Plan.alloc rfl zerB fun b5 => ?_
  refine Plan.done ?_
  refine HW.seq (HW.region [(0, .st), (1, .al), (2, .ef)] rfl rfl ?_)
  refine Plan.makeFunc rfl rfl rfl rfl ?_
  refine Plan.alloc rfl zerVecbool fun b6 => ?_
  refine Plan.storeF 0 rfl rfl hDn sizVecbool rfl rfl rfl rfl ?_
  refine Plan.done ?_
  refine HW.seq ?_
  refine HW.seq (HW.region [(0, .st), (1, .ef)] rfl rfl ?_)
  refine Plan.load (v := .slice _ _ _) rfl rfl agg_api_Vec rfl (Sees.one 4 rfl rfl) ?_
  refine Plan.callF [] 0 rfl rfl rfl (.inl rfl) (by simp) (fun w hm => edges_ct (some a1) p.length c1 w) ?_   -- tinplate/convex.edges
  rintro v Ln ⟨bx, rfl, rfl⟩
  refine Plan.done ?_
  refine HW.block ?_
  refine HW.rangeFunc (G := PaG) (p.length) (edgeA p) (fun g => [Res.blk b6 #[.func (.func 92) #[] #[.pointer (some ⟨b2, 0, none⟩), .pointer (some ⟨b3, 0, none⟩)]] 103, Res.blk b5 #[.bool g.ok] 4, Res.blk b4 #[int g.d.1, int g.d.2] 52, Res.blk b3 #[.slice (some a2) q.length c2] 22, Res.blk b2 #[.slice (some a1) p.length c1] 22]) ([Res.blk bx #[.slice (some a1) p.length c1] 22]) (fun k g => g.ok = false ∧ g.d = (0, 0) ∧ ∀ j, j < k → sepB p q (dirP p j) = false) (fun c g => c = .ret ∧ partedF p q = (g.d, g.ok)) (⟨(0, 0), false⟩) rfl rfl rfl (fun _ => rfl) (fun w hm => hm.perm (List.perm_append_comm (l₁ := [_]))) (⟨rfl, rfl, fun j hj => absurd hj (Nat.not_lt_zero _)⟩) (fun w1 X1 hm1 hX1 => edges_seq rfl rfl hp rfl (by omega) hm1 hX1 List.mem_cons_self) (fun l k g wa wb hk hok hma hmb => ?_) (fun D g hok => ?_) (fun D c g hok => ?_)
  · skip
    refine HW.seq (HW.region [(0, .al), (1, .ef)] rfl rfl ?_)
    refine Plan.alloc rfl zerV fun b7 => ?_
    refine Plan.storeA 0 rfl rfl hDn sizV rfl rfl rfl rfl rfl rfl ?_
    refine Plan.done ?_
    refine HW.region [(0, .al), (1, .ef)] rfl rfl ?_
    refine Plan.alloc rfl zerV fun b8 => ?_
    refine Plan.storeA 0 rfl rfl hDn sizV rfl rfl rfl rfl rfl rfl ?_
    refine Plan.done ?_
    obtain ⟨d1, ok1⟩ := g
    obtain ⟨hg1, hg2, hno⟩ := hok
    simp only at hg1 hg2
    subst hg1 hg2
    obtain ⟨⟨x1, x2⟩, ⟨x3, x4⟩⟩ := hb1 _ (nth_mem hk)
    obtain ⟨⟨x5, x6⟩, ⟨x7, x8⟩⟩ := hb1 _ (nx_mem hk)
    refine HW.block ?_
    refine HW.seq (HW.region [(0, .st), (1, .st), (2, .ef), (3, .al), (4, .ef)] rfl rfl ?_)
    refine Plan.loadAll 0 rfl rfl aggV sizV rfl rfl rfl ?_
    refine Plan.loadAll 1 rfl rfl aggV sizV rfl rfl rfl ?_
    refine Plan.callF [] 0 rfl rfl rfl (.inl rfl) (by simp) (fun w hm => minus_ct _ _ _ _ w ((hb1 _ (nx_mem hk)).mono (by omega)) ((hb1 _ (nth_mem hk)).mono (by omega))) ?_   -- tinplate/convex.minus
    rintro v Ln ⟨rfl, rfl⟩
    refine Plan.alloc rfl zerV fun b9 => ?_
    refine Plan.storeA 0 rfl rfl hDn sizV rfl rfl rfl rfl rfl rfl ?_
    refine Plan.done ?_
    refine HW.seq (HW.region [(0, .st), (1, .st), (2, .st), (3, .st), (4, .st), (5, .st), (6, .st), (7, .ef)] rfl rfl ?_)
    refine Plan.load (v := .func _ _ _) rfl rfl aggVecbool rfl (Sees.one 3 rfl rfl) ?_
    refine Plan.fieldAddr rfl rfl fldV1 rfl ?_
    refine Plan.load (v := .int _ _) rfl rfl aggI rfl (Sees.one 0 rfl rfl) ?_
    refine Plan.fieldAddr rfl rfl fldV0 rfl ?_
    refine Plan.load (v := .int _ _) rfl rfl aggI rfl (Sees.one 0 rfl rfl) ?_
    refine Plan.neg rfl rfl rfl (by omega) ?_
    refine Plan.build rfl rfl rfl (bldV _ _) ?_
    refine Plan.callV (R := fun v L => v = .bool (sepB p q (dirP p k)) ∧ L = []) [] 0 rfl rfl rfl rfl (.inl rfl) (by simp) (fun w hm => by
          have h5 := Mem.call (L2 := [Res.blk bx #[.slice (some a1) p.length c1] 22]) hmb hm (fun b hb => List.mem_flatMap.1 hb)
          exact sep_ct a1 a2 p q _ c1 _ c2 (dirP p k) b2 b3 w (hp.mem h5) (hq.mem h5) rfl rfl h01 h02 hl1 hl2 hB1 hB2 ⟨⟨by simp only [dirP]; omega, by simp only [dirP]; omega⟩, ⟨by simp only [dirP]; omega, by simp only [dirP]; omega⟩⟩ (hm.res (Res.blk b2 _ _) (by simp)) (hm.res (Res.blk b3 _ _) (by simp))) ?_
    rintro v Ln ⟨rfl, rfl⟩
    refine Plan.splitB (fun h28 => ?_) (fun h28 => ?_)
    · skip
      refine Plan.done ?_
      refine HW.cond_true rfl ?_
      refine HW.seq (HW.region [(0, .st), (1, .st), (2, .st), (3, .st), (4, .st), (5, .st), (6, .ef), (7, .ef)] rfl rfl ?_)
      refine Plan.fieldAddr rfl rfl fldV1 rfl ?_
      refine Plan.load (v := .int _ _) rfl rfl aggI rfl (Sees.one 0 rfl rfl) ?_
      refine Plan.fieldAddr rfl rfl fldV0 rfl ?_
      refine Plan.load (v := .int _ _) rfl rfl aggI rfl (Sees.one 0 rfl rfl) ?_
      refine Plan.neg rfl rfl rfl (by omega) ?_
      refine Plan.build rfl rfl rfl (bldV _ _) ?_
      refine Plan.storeA 5 rfl rfl hDn sizV rfl rfl rfl rfl rfl rfl ?_
      refine Plan.storeB 4 rfl rfl hDn sizB rfl rfl rfl rfl ?_
      refine Plan.done ?_
      exact HW.ret ⟨⟨dirP p k, true⟩, ⟨rfl, by rw [partedF, firstD_some hk h28 hno]⟩, Ent.sub (.cons _ (.cons _ (.cons _ (.refl _))))⟩
    · skip
      refine Plan.done ?_
      refine HW.cond_false rfl ?_
      refine HW.skip ?_
      exact ⟨⟨(0, 0), false⟩, ⟨rfl, rfl, fun j hj => by rcases Nat.lt_succ_iff_lt_or_eq.1 hj with h | rfl; exact hno j h; exact h28⟩, Ent.sub (.cons _ (.cons _ (.cons _ (.refl _))))⟩
  · skip
    obtain ⟨D1, rfl⟩ : ∃ D1, D1 = D := ⟨_, rfl⟩
    obtain ⟨d1, ok1⟩ := g
    obtain ⟨hg1, hg2, hno1⟩ := hok
    simp only at hg1 hg2
    subst hg1 hg2
    refine HW.seq ?_
    refine HW.seq (HW.region [(0, .st), (1, .ef)] rfl rfl ?_)
    refine Plan.load (v := .slice _ _ _) rfl rfl agg_api_Vec rfl (Sees.one 4 rfl rfl) ?_
    refine Plan.callF [] 0 rfl rfl rfl (.inl rfl) (by simp) (fun w hm => edges_ct (some a2) q.length c2 w) ?_   -- tinplate/convex.edges
    rintro v Ln ⟨by1, rfl, rfl⟩
    refine Plan.done ?_
    refine HW.block ?_
    refine HW.rangeFunc (G := PaG) (q.length) (edgeA q) (fun g => [Res.dfr D1, Res.blk b6 #[.func (.func 92) #[] #[.pointer (some ⟨b2, 0, none⟩), .pointer (some ⟨b3, 0, none⟩)]] 103, Res.blk b5 #[.bool g.ok] 4, Res.blk b4 #[int g.d.1, int g.d.2] 52, Res.blk b3 #[.slice (some a2) q.length c2] 22, Res.blk b2 #[.slice (some a1) p.length c1] 22]) ([Res.blk bx #[.slice (some a1) p.length c1] 22, Res.blk by1 #[.slice (some a2) q.length c2] 22]) (fun k g => g.ok = false ∧ g.d = (0, 0) ∧ ∀ j, j < k → sepB p q (dirQ q j) = false) (fun c g => c = .ret ∧ partedF p q = (g.d, g.ok)) (⟨(0, 0), false⟩) rfl rfl rfl (fun _ => rfl) (fun w hm => hm.perm (List.perm_append_comm (l₁ := [_]))) (⟨rfl, rfl, fun j hj => absurd hj (Nat.not_lt_zero _)⟩) (fun w1 X1 hm1 hX1 => edges_seq rfl rfl hq rfl (by omega) hm1 hX1 (List.mem_cons_of_mem _ List.mem_cons_self)) (fun l k g wa wb hk hok hma hmb => ?_) (fun D g hok => ?_) (fun D c g hok => ?_)
    · skip
      refine HW.seq (HW.region [(0, .al), (1, .ef)] rfl rfl ?_)
      refine Plan.alloc rfl zerV fun b10 => ?_
      refine Plan.storeA 0 rfl rfl hDn sizV rfl rfl rfl rfl rfl rfl ?_
      refine Plan.done ?_
      refine HW.region [(0, .al), (1, .ef)] rfl rfl ?_
      refine Plan.alloc rfl zerV fun b11 => ?_
      refine Plan.storeA 0 rfl rfl hDn sizV rfl rfl rfl rfl rfl rfl ?_
      refine Plan.done ?_
      obtain ⟨d1, ok1⟩ := g
      obtain ⟨hg1, hg2, hno⟩ := hok
      simp only at hg1 hg2
      subst hg1 hg2
      obtain ⟨⟨x1, x2⟩, ⟨x3, x4⟩⟩ := hb2 _ (nth_mem hk)
      obtain ⟨⟨x5, x6⟩, ⟨x7, x8⟩⟩ := hb2 _ (nx_mem hk)
      refine HW.block ?_
      refine HW.seq (HW.region [(0, .st), (1, .st), (2, .ef), (3, .al), (4, .ef)] rfl rfl ?_)
      refine Plan.loadAll 0 rfl rfl aggV sizV rfl rfl rfl ?_
      refine Plan.loadAll 1 rfl rfl aggV sizV rfl rfl rfl ?_
      refine Plan.callF [] 0 rfl rfl rfl (.inl rfl) (by simp) (fun w hm => minus_ct _ _ _ _ w ((hb2 _ (nx_mem hk)).mono (by omega)) ((hb2 _ (nth_mem hk)).mono (by omega))) ?_   -- tinplate/convex.minus
      rintro v Ln ⟨rfl, rfl⟩
      refine Plan.alloc rfl zerV fun b12 => ?_
      refine Plan.storeA 0 rfl rfl hDn sizV rfl rfl rfl rfl rfl rfl ?_
      refine Plan.done ?_
      refine HW.seq (HW.region [(0, .st), (1, .st), (2, .st), (3, .st), (4, .st), (5, .st), (6, .st), (7, .ef)] rfl rfl ?_)
      refine Plan.load (v := .func _ _ _) rfl rfl aggVecbool rfl (Sees.one 4 rfl rfl) ?_
      refine Plan.fieldAddr rfl rfl fldV1 rfl ?_
      refine Plan.load (v := .int _ _) rfl rfl aggI rfl (Sees.one 0 rfl rfl) ?_
      refine Plan.neg rfl rfl rfl (by omega) ?_
      refine Plan.fieldAddr rfl rfl fldV0 rfl ?_
      refine Plan.load (v := .int _ _) rfl rfl aggI rfl (Sees.one 0 rfl rfl) ?_
      refine Plan.build rfl rfl rfl (bldV _ _) ?_
      refine Plan.callV (R := fun v L => v = .bool (sepB p q (dirQ q k)) ∧ L = []) [] 0 rfl rfl rfl rfl (.inl rfl) (by simp) (fun w hm => by
            have h5 := Mem.call (L2 := [Res.blk bx #[.slice (some a1) p.length c1] 22, Res.blk by1 #[.slice (some a2) q.length c2] 22]) hmb hm (fun b hb => List.mem_flatMap.1 hb)
            exact sep_ct a1 a2 p q _ c1 _ c2 (dirQ q k) b2 b3 w (hp.mem h5) (hq.mem h5) rfl rfl h01 h02 hl1 hl2 hB1 hB2 ⟨⟨by simp only [dirQ]; omega, by simp only [dirQ]; omega⟩, ⟨by simp only [dirQ]; omega, by simp only [dirQ]; omega⟩⟩ (hm.res (Res.blk b2 _ _) (by simp)) (hm.res (Res.blk b3 _ _) (by simp))) ?_
      rintro v Ln ⟨rfl, rfl⟩
      refine Plan.splitB (fun h49 => ?_) (fun h49 => ?_)
      · skip
        refine Plan.done ?_
        refine HW.cond_true rfl ?_
        refine HW.seq (HW.region [(0, .st), (1, .st), (2, .st), (3, .st), (4, .st), (5, .st), (6, .ef), (7, .ef)] rfl rfl ?_)
        refine Plan.fieldAddr rfl rfl fldV1 rfl ?_
        refine Plan.load (v := .int _ _) rfl rfl aggI rfl (Sees.one 0 rfl rfl) ?_
        refine Plan.neg rfl rfl rfl (by omega) ?_
        refine Plan.fieldAddr rfl rfl fldV0 rfl ?_
        refine Plan.load (v := .int _ _) rfl rfl aggI rfl (Sees.one 0 rfl rfl) ?_
        refine Plan.build rfl rfl rfl (bldV _ _) ?_
        refine Plan.storeA 6 rfl rfl hDn sizV rfl rfl rfl rfl rfl rfl ?_
        refine Plan.storeB 5 rfl rfl hDn sizB rfl rfl rfl rfl ?_
        refine Plan.done ?_
        exact HW.ret ⟨⟨dirQ q k, true⟩, ⟨rfl, by rw [partedF, firstD_none hno1]; simp only; rw [firstD_some hk h49 hno]⟩, Ent.sub (.cons _ (.cons _ (.cons _ (.refl _))))⟩
      · skip
        refine Plan.done ?_
        refine HW.cond_false rfl ?_
        refine HW.skip ?_
        exact ⟨⟨(0, 0), false⟩, ⟨rfl, rfl, fun j hj => by rcases Nat.lt_succ_iff_lt_or_eq.1 hj with h | rfl; exact hno j h; exact h49⟩, Ent.sub (.cons _ (.cons _ (.cons _ (.refl _))))⟩
    · skip
      obtain ⟨d1, ok1⟩ := g
      obtain ⟨hg1, hg2, hno⟩ := hok
      simp only at hg1 hg2
      subst hg1 hg2
      have hpf : partedF p q = ((0, 0), false) := by rw [partedF, firstD_none hno1]; simp only; rw [firstD_none hno]
      refine HW.seq (HW.region [(0, .st), (1, .ef), (2, .ef)] rfl rfl ?_)
      refine Plan.build rfl rfl rfl (bld0) ?_
      refine Plan.storeA 4 rfl rfl hDn sizV rfl rfl rfl rfl rfl rfl ?_
      refine Plan.storeB 3 rfl rfl hDn sizB rfl rfl rfl rfl ?_
      refine Plan.done ?_
      exact HW.ret ⟨[D, D1], _, [Res.blk b5 #[.bool false] 4, Res.blk b4 #[int 0, int 0] 52], [], rfl, Ent.sub (.cons_cons _ (.cons_cons _ (.cons _ (.cons_cons _ (.cons_cons _ (List.nil_sublist _)))))), .cell rfl (own_loadAgg 1 rfl aggV sizV rfl) (.cell rfl (own_loadOne 0 rfl aggB rfl) .nil), List.nil_sublist _, (by rw [hpf]; rfl), rfl⟩
    · skip
      obtain ⟨d1, ok1⟩ := g
      obtain ⟨rfl, hpf⟩ := hok
      exact HW.ret ⟨[D, D1], _, [Res.blk b5 #[.bool ok1] 4, Res.blk b4 #[int d1.1, int d1.2] 52], [], rfl, Ent.sub (.cons_cons _ (.cons_cons _ (.cons _ (.cons_cons _ (.cons_cons _ (List.nil_sublist _)))))), .cell rfl (own_loadAgg 1 rfl aggV sizV rfl) (.cell rfl (own_loadOne 0 rfl aggB rfl) .nil), List.nil_sublist _, (by rw [hpf]; rfl), rfl⟩
  · skip
    obtain ⟨d1, ok1⟩ := g
    obtain ⟨rfl, hpf⟩ := hok
    exact HW.ret ⟨[D], _, [Res.blk b5 #[.bool ok1] 4, Res.blk b4 #[int d1.1, int d1.2] 52], [], rfl, Ent.sub (.cons_cons _ (.cons _ (.cons_cons _ (.cons_cons _ (List.nil_sublist _))))), .cell rfl (own_loadAgg 1 rfl aggV sizV rfl) (.cell rfl (own_loadOne 0 rfl aggB rfl) .nil), List.nil_sublist _, (by rw [hpf]; rfl), rfl⟩

end Go.Proofs.Ytjmklbkcpjmcaaa.V
