/-
  Overlap, Separate, Inside.
-/
import Derived.Test.YtoghphikfkdkmaaV12
namespace Go.Proofs.Ytoghphikfkdkmaa.V
open Go Go.RowKit Go.Proofs.Ytoghphikfkdkmaa.H
set_option linter.unusedVariables false
set_option linter.unusedSimpArgs false

def OverlapF (p q : List Pt) : Bool × Int := if validF p && validF q then (!(partedF p q).2, 0) else (false, 2)
def SeparateF (p q : List Pt) : Pt × Int := if validF p && validF q then (if (partedF p q).2 then ((partedF p q).1, 0) else ((0, 0), 10)) else ((0, 0), 2)
def InsideF (p q : List Pt) : Bool × Int := if validF p && validF q then (!p.any (fun v => decide (placeF q v < 0)), 0) else (false, 2)

theorem some_of {A : Option Addr} {p : List Pt} {w : World} (hp : Rd enc 2 w A p) (h : 0 < p.length) : ∃ a, A = some a := by
  obtain ⟨a, h, _⟩ := hp 0 h
  exact ⟨a, h⟩

theorem Overlap_ct (A1 A2 : Option Addr) (p q : List Pt) (n1 c1 n2 c2 : Nat) (w : World) (hp : Rd enc 2 w A1 p) (hq : Rd enc 2 w A2 q) (hn1 : n1 = p.length) (hn2 : n2 = q.length) (hl1 : p.length ≤ 1000000) (hl2 : q.length ≤ 1000000) :
    Ct P 22 #[.slice A1 n1 c1, .slice A2 n2 c2] w [] (fun r L => r = .tuple #[.bool (OverlapF p q).1, int (OverlapF p q).2] ∧ L = []) := by
  subst hn1 hn2
  refine Ct.of_body (rs := [.tmp 4, .tmp 5]) (N := 24) (L := []) Try.func22 rfl rfl rfl (by kernel_rfl) rfl (Mem.refl w) ?_
  refine HW.seq (HW.region [(0, .st), (1, .st)] rfl rfl ?_)
  refine Plan.assign (v := .bool _) rfl rfl rfl ?_
  refine Plan.assign (v := .int _ _) rfl rfl rfl ?_
  refine Plan.done ?_
  refine HW.seq ?_
  refine HW.seq (HW.region [(0, .st), (1, .ef), (2, .st), (3, .st), (4, .st), (5, .ef), (6, .st), (7, .st)] rfl rfl ?_)
  refine Plan.move (v := .slice _ _ _) rfl rfl rfl ?_
  refine Plan.callF [] 0 rfl rfl rfl (.inl rfl) (by simp) (fun w hm => Valid_ct A1 p c1 _ w (hp.mem hm) rfl (by omega)) ?_   -- tinplate/convex.Valid
  rintro v Ln ⟨rfl, rfl⟩
  refine Plan.splitB (fun h9 => ?_) (fun h9 => ?_)
  · skip
    obtain ⟨v1, v2, v3, v4⟩ := validF_spec h9
    refine Plan.not rfl rfl rfl ?_
    refine Plan.move (v := .bool _) rfl rfl rfl ?_
    refine Plan.move (v := .slice _ _ _) rfl rfl rfl ?_
    refine Plan.callF [] 0 rfl rfl rfl (.inl rfl) (by simp) (fun w hm => Valid_ct A2 q c2 _ w (hq.mem hm) rfl (by omega)) ?_   -- tinplate/convex.Valid
    rintro v Ln ⟨rfl, rfl⟩
    refine Plan.splitB (fun h13 => ?_) (fun h13 => ?_)
    · skip
      obtain ⟨u1, u2, u3, u4⟩ := validF_spec h13
      have hF : OverlapF p q = (!(partedF p q).2, 0) := by rw [OverlapF, if_pos (by rw [h9, h13]; rfl)]
      obtain ⟨a1, rfl⟩ := some_of hp (by omega)
      obtain ⟨a2, rfl⟩ := some_of hq (by omega)
      refine Plan.not rfl rfl rfl ?_
      refine Plan.pick (v := .bool _) rfl rfl rfl rfl ?_
      refine Plan.done ?_
      refine HW.cond_false rfl ?_
      refine HW.skip ?_
      refine HW.seq (HW.region [(0, .st), (1, .st), (2, .ef), (3, .st), (4, .st), (5, .st), (6, .al), (7, .ef), (8, .st)] rfl rfl ?_)
      refine Plan.move (v := .slice _ _ _) rfl rfl rfl ?_
      refine Plan.move (v := .slice _ _ _) rfl rfl rfl ?_
      refine Plan.callF [] 0 rfl rfl rfl (.inl rfl) (by simp) (fun w hm => parted_ct a1 a2 p q _ c1 _ c2 w (hp.mem hm) (hq.mem hm) rfl rfl (by omega) (by omega) hl1 hl2 (fun v hv => (v3 v hv).mono (by omega)) (fun v hv => (u3 v hv).mono (by omega))) ?_   -- tinplate/convex.parted
      rintro v Ln ⟨rfl, rfl⟩
      refine Plan.move (v := .tuple _) rfl rfl rfl ?_
      refine Plan.extract (v := .agg _) rfl rfl rfl rfl ?_
      refine Plan.extract (v := .bool _) rfl rfl rfl rfl ?_
      refine Plan.alloc rfl zerV fun b6 => ?_
      refine Plan.storeA 0 rfl rfl hDn sizV rfl rfl rfl rfl rfl rfl ?_
      refine Plan.assign (v := .bool _) rfl rfl rfl ?_
      refine Plan.done ?_
      refine HW.seq (HW.region [(0, .st), (1, .st), (2, .st), (3, .st)] rfl rfl ?_)
      refine Plan.move (v := .bool _) rfl rfl rfl ?_
      refine Plan.not rfl rfl rfl ?_
      refine Plan.assign (v := .bool _) rfl rfl rfl ?_
      refine Plan.assign (v := .int _ _) rfl rfl rfl ?_
      refine Plan.done ?_
      exact HW.ret ⟨rfl, _, [], .tmp rfl (.tmp rfl .nil), List.nil_sublist _, (by rw [hF]; rfl), rfl⟩
    · skip
      have hF : OverlapF p q = (false, 2) := by rw [OverlapF, if_neg (by rw [h9, h13]; decide)]
      refine Plan.not rfl rfl rfl ?_
      refine Plan.pick (v := .bool _) rfl rfl rfl rfl ?_
      refine Plan.done ?_
      refine HW.cond_true rfl ?_
      refine HW.seq (HW.region [(0, .st), (1, .st)] rfl rfl ?_)
      refine Plan.assign (v := .bool _) rfl rfl rfl ?_
      refine Plan.assign (v := .int _ _) rfl rfl rfl ?_
      refine Plan.done ?_
      exact HW.ret ⟨rfl, _, [], .tmp rfl (.tmp rfl .nil), List.nil_sublist _, (by rw [hF]; rfl), rfl⟩
  · skip
    have hF : OverlapF p q = (false, 2) := by rw [OverlapF, if_neg (by rw [h9]; simp)]
    refine Plan.not rfl rfl rfl ?_
    refine Plan.move (v := .bool _) rfl rfl rfl ?_
    refine Plan.no rfl rfl ?_
    refine Plan.noE rfl rfl ?_
    refine Plan.no rfl rfl ?_
    refine Plan.pick (v := .bool _) rfl rfl rfl rfl ?_
    refine Plan.done ?_
    refine HW.cond_true rfl ?_
    refine HW.seq (HW.region [(0, .st), (1, .st)] rfl rfl ?_)
    refine Plan.assign (v := .bool _) rfl rfl rfl ?_
    refine Plan.assign (v := .int _ _) rfl rfl rfl ?_
    refine Plan.done ?_
    exact HW.ret ⟨rfl, _, [], .tmp rfl (.tmp rfl .nil), List.nil_sublist _, (by rw [hF]; rfl), rfl⟩

theorem Separate_ct (A1 A2 : Option Addr) (p q : List Pt) (n1 c1 n2 c2 : Nat) (w : World) (hp : Rd enc 2 w A1 p) (hq : Rd enc 2 w A2 q) (hn1 : n1 = p.length) (hn2 : n2 = q.length) (hl1 : p.length ≤ 1000000) (hl2 : q.length ≤ 1000000) :
    Ct P 24 #[.slice A1 n1 c1, .slice A2 n2 c2] w [] (fun r L => r = .tuple #[vc (SeparateF p q).1, int (SeparateF p q).2] ∧ L = []) := by
  subst hn1 hn2
  refine Ct.of_body (rs := [.cell 4 36, .tmp 5]) (N := 27) (L := []) Try.func24 rfl rfl rfl (by kernel_rfl) rfl (Mem.refl w) ?_
  refine HW.seq (HW.region [(0, .al), (1, .st)] rfl rfl ?_)
  refine Plan.alloc rfl zerV fun b4 => ?_
  refine Plan.assign (v := .int _ _) rfl rfl rfl ?_
  refine Plan.done ?_
  refine HW.seq ?_
  refine HW.seq (HW.region [(0, .st), (1, .ef), (2, .st), (3, .st), (4, .st), (5, .ef), (6, .st), (7, .st)] rfl rfl ?_)
  refine Plan.move (v := .slice _ _ _) rfl rfl rfl ?_
  refine Plan.callF [] 0 rfl rfl rfl (.inl rfl) (by simp) (fun w hm => Valid_ct A1 p c1 _ w (hp.mem hm) rfl (by omega)) ?_   -- tinplate/convex.Valid
  rintro v Ln ⟨rfl, rfl⟩
  refine Plan.splitB (fun h9 => ?_) (fun h9 => ?_)
  · skip
    obtain ⟨v1, v2, v3, v4⟩ := validF_spec h9
    refine Plan.not rfl rfl rfl ?_
    refine Plan.move (v := .bool _) rfl rfl rfl ?_
    refine Plan.move (v := .slice _ _ _) rfl rfl rfl ?_
    refine Plan.callF [] 0 rfl rfl rfl (.inl rfl) (by simp) (fun w hm => Valid_ct A2 q c2 _ w (hq.mem hm) rfl (by omega)) ?_   -- tinplate/convex.Valid
    rintro v Ln ⟨rfl, rfl⟩
    refine Plan.splitB (fun h13 => ?_) (fun h13 => ?_)
    · skip
      obtain ⟨u1, u2, u3, u4⟩ := validF_spec h13
      have hF : SeparateF p q = (if (partedF p q).2 then ((partedF p q).1, 0) else ((0, 0), 10)) := by rw [SeparateF, if_pos (by rw [h9, h13]; rfl)]
      obtain ⟨a1, rfl⟩ := some_of hp (by omega)
      obtain ⟨a2, rfl⟩ := some_of hq (by omega)
      refine Plan.not rfl rfl rfl ?_
      refine Plan.pick (v := .bool _) rfl rfl rfl rfl ?_
      refine Plan.done ?_
      refine HW.cond_false rfl ?_
      refine HW.skip ?_
      refine HW.seq (HW.region [(0, .st), (1, .st), (2, .ef), (3, .st), (4, .st), (5, .st), (6, .al), (7, .ef), (8, .st)] rfl rfl ?_)
      refine Plan.move (v := .slice _ _ _) rfl rfl rfl ?_
      refine Plan.move (v := .slice _ _ _) rfl rfl rfl ?_
      refine Plan.callF [] 0 rfl rfl rfl (.inl rfl) (by simp) (fun w hm => parted_ct a1 a2 p q _ c1 _ c2 w (hp.mem hm) (hq.mem hm) rfl rfl (by omega) (by omega) hl1 hl2 (fun v hv => (v3 v hv).mono (by omega)) (fun v hv => (u3 v hv).mono (by omega))) ?_   -- tinplate/convex.parted
      rintro v Ln ⟨rfl, rfl⟩
      refine Plan.move (v := .tuple _) rfl rfl rfl ?_
      refine Plan.extract (v := .agg _) rfl rfl rfl rfl ?_
      refine Plan.extract (v := .bool _) rfl rfl rfl rfl ?_
      refine Plan.alloc rfl zerV fun b6 => ?_
      refine Plan.storeA 0 rfl rfl hDn sizV rfl rfl rfl rfl rfl rfl ?_
      refine Plan.assign (v := .bool _) rfl rfl rfl ?_
      refine Plan.done ?_
      refine HW.seq ?_
      refine HW.seq (HW.region [(0, .st), (1, .st)] rfl rfl ?_)
      refine Plan.move (v := .bool _) rfl rfl rfl ?_
      refine Plan.not rfl rfl rfl ?_
      refine Plan.done ?_
      refine HW.cond _ rfl (fun hc => ?_) (fun hc => ?_)
      · skip
        have hc' : (partedF p q).2 = false := by simpa using hc
        rw [hc', if_neg (by decide)] at hF
        refine HW.seq (HW.region [(0, .st), (1, .ef), (2, .st)] rfl rfl ?_)
        refine Plan.build rfl rfl rfl (bld0) ?_
        refine Plan.storeA 1 rfl rfl hDn sizV rfl rfl rfl rfl rfl rfl ?_
        refine Plan.assign (v := .int _ _) rfl rfl rfl ?_
        refine Plan.done ?_
        exact HW.ret ⟨rfl, _, [], .cell rfl (own_loadAgg 1 rfl aggV sizV rfl) (.tmp rfl .nil), List.nil_sublist _, (by rw [hF]; rfl), rfl⟩
      · skip
        refine HW.skip ?_
        have hc' : (partedF p q).2 = true := by simpa using hc
        rw [hc', if_pos rfl] at hF
        refine HW.seq (HW.region [(0, .st), (1, .ef), (2, .st)] rfl rfl ?_)
        refine Plan.loadAll 0 rfl rfl aggV sizV rfl rfl rfl ?_
        refine Plan.storeA 1 rfl rfl hDn sizV rfl rfl rfl rfl rfl rfl ?_
        refine Plan.assign (v := .int _ _) rfl rfl rfl ?_
        refine Plan.done ?_
        exact HW.ret ⟨rfl, _, [], .cell rfl (own_loadAgg 1 rfl aggV sizV rfl) (.tmp rfl .nil), List.nil_sublist _, (by rw [hF]; rfl), rfl⟩
    · skip
      have hF : SeparateF p q = ((0, 0), 2) := by rw [SeparateF, if_neg (by rw [h9, h13]; decide)]
      refine Plan.not rfl rfl rfl ?_
      refine Plan.pick (v := .bool _) rfl rfl rfl rfl ?_
      refine Plan.done ?_
      refine HW.cond_true rfl ?_
      refine HW.seq (HW.region [(0, .st), (1, .ef), (2, .st)] rfl rfl ?_)
      refine Plan.build rfl rfl rfl (bld0) ?_
      refine Plan.storeA 0 rfl rfl hDn sizV rfl rfl rfl rfl rfl rfl ?_
      refine Plan.assign (v := .int _ _) rfl rfl rfl ?_
      refine Plan.done ?_
      exact HW.ret ⟨rfl, _, [], .cell rfl (own_loadAgg 0 rfl aggV sizV rfl) (.tmp rfl .nil), List.nil_sublist _, (by rw [hF]; rfl), rfl⟩
  · skip
    have hF : SeparateF p q = ((0, 0), 2) := by rw [SeparateF, if_neg (by rw [h9]; simp)]
    refine Plan.not rfl rfl rfl ?_
    refine Plan.move (v := .bool _) rfl rfl rfl ?_
    refine Plan.no rfl rfl ?_
    refine Plan.noE rfl rfl ?_
    refine Plan.no rfl rfl ?_
    refine Plan.pick (v := .bool _) rfl rfl rfl rfl ?_
    refine Plan.done ?_
    refine HW.cond_true rfl ?_
    refine HW.seq (HW.region [(0, .st), (1, .ef), (2, .st)] rfl rfl ?_)
    refine Plan.build rfl rfl rfl (bld0) ?_
    refine Plan.storeA 0 rfl rfl hDn sizV rfl rfl rfl rfl rfl rfl ?_
    refine Plan.assign (v := .int _ _) rfl rfl rfl ?_
    refine Plan.done ?_
    exact HW.ret ⟨rfl, _, [], .cell rfl (own_loadAgg 0 rfl aggV sizV rfl) (.tmp rfl .nil), List.nil_sublist _, (by rw [hF]; rfl), rfl⟩

theorem inside1_ct (A2 : Option Addr) (q : List Pt) (n2 c2 : Nat) (v : Pt) (bq : Nat) (w : World) (hq : Rd enc 2 w A2 q) (hn2 : n2 = q.length) (h0 : 0 < q.length) (hl2 : q.length ≤ 1000000) (hb : ∀ v ∈ q, Bd2 100000 v.1 v.2) (hv : Bd2 100000 v.1 v.2)
    (hbq : w.heap[bq]? = some (.cells #[.slice A2 n2 c2] 22 (0, 0))) :
    Ct P 32 #[vc v, .pointer (some ⟨bq, 0, none⟩)] w [] (fun r L => r = .bool (decide (placeF q v < 0)) ∧ L = []) := by
  subst hn2
  have hbox : Lies w ⟨bq, 0, none⟩ [.slice A2 q.length c2] := fun j u hu => by
    rw [Addr.add_lit, cell_of_heap hbq, Nat.zero_add]
    simpa using hu
  refine Ct.of_body (rs := [.tmp 3]) (N := 8) (L := []) Try.func32 rfl rfl rfl (by kernel_rfl) rfl (Mem.refl w) ?_
  refine HW.seq (HW.region [(0, .ef), (1, .st)] rfl rfl ?_)
  refine Plan.boxA rfl rfl rfl fun b2 => ?_
  refine Plan.assign (v := .bool _) rfl rfl rfl ?_
  refine Plan.done ?_
  refine HW.seq (HW.region [(0, .st), (1, .st), (2, .ef), (3, .st), (4, .st)] rfl rfl ?_)
  refine Plan.load (v := .slice _ _ _) rfl rfl agg_api_Vec rfl (Sees.old hbox (by simp)) ?_
  refine Plan.loadAll 0 rfl rfl aggV sizV rfl rfl rfl ?_
  refine Plan.callF [] 0 rfl rfl rfl (.inl rfl) (by simp) (fun w hm => place_ct A2 q v _ c2 w (hq.mem hm) rfl h0 hl2 hb hv) ?_   -- tinplate/convex.place
  rintro v Ln ⟨rfl, rfl⟩
  refine Plan.cmp2 rfl rfl rfl rfl rfl (fun h7 => ?_) (fun h7 => ?_)
  · replace h7 := of_decide_eq_true h7
    refine Plan.assign (v := .bool _) rfl rfl rfl ?_
    refine Plan.done ?_
    exact HW.ret ⟨rfl, _, [], .tmp rfl .nil, List.nil_sublist _, (by rw [decide_eq_true h7]; rfl), rfl⟩
  · replace h7 := of_decide_eq_false h7
    refine Plan.assign (v := .bool _) rfl rfl rfl ?_
    refine Plan.done ?_
    exact HW.ret ⟨rfl, _, [], .tmp rfl .nil, List.nil_sublist _, (by rw [decide_eq_false h7]; rfl), rfl⟩

theorem Inside_ct (A1 A2 : Option Addr) (p q : List Pt) (n1 c1 n2 c2 : Nat) (w : World) (hp : Rd enc 2 w A1 p) (hq : Rd enc 2 w A2 q) (hn1 : n1 = p.length) (hn2 : n2 = q.length) (hl1 : p.length ≤ 1000000) (hl2 : q.length ≤ 1000000) :
    Ct P 10 #[.slice A1 n1 c1, .slice A2 n2 c2] w [] (fun r L => r = .tuple #[.bool (InsideF p q).1, int (InsideF p q).2] ∧ L = []) := by
  subst hn1 hn2
  refine Ct.of_body (rs := [.tmp 4, .tmp 5]) (N := 18) (L := []) Try.func10 rfl rfl rfl (by kernel_rfl) rfl (Mem.refl w) ?_
  refine HW.seq (HW.region [(0, .ef), (1, .st), (2, .st)] rfl rfl ?_)
  refine Plan.boxS rfl rfl rfl fun b3 => ?_
  refine Plan.assign (v := .bool _) rfl rfl rfl ?_
  refine Plan.assign (v := .int _ _) rfl rfl rfl ?_
  refine Plan.done ?_
  refine HW.seq ?_
  refine HW.seq (HW.region [(0, .st), (1, .ef), (2, .st), (3, .st), (4, .st), (5, .ef), (6, .st), (7, .st)] rfl rfl ?_)
  refine Plan.move (v := .slice _ _ _) rfl rfl rfl ?_
  refine Plan.callF [] 0 rfl rfl rfl (.inl rfl) (by simp) (fun w hm => Valid_ct A1 p c1 _ w (hp.mem hm) rfl (by omega)) ?_   -- tinplate/convex.Valid
  rintro v Ln ⟨rfl, rfl⟩
  refine Plan.splitB (fun h7 => ?_) (fun h7 => ?_)
  · skip
    obtain ⟨v1, v2, v3, v4⟩ := validF_spec h7
    refine Plan.not rfl rfl rfl ?_
    refine Plan.move (v := .bool _) rfl rfl rfl ?_
    refine Plan.load (v := .slice _ _ _) rfl rfl agg_api_Vec rfl (Sees.one 0 rfl rfl) ?_
    refine Plan.callF [] 0 rfl rfl rfl (.inl rfl) (by simp) (fun w hm => Valid_ct A2 q c2 _ w (hq.mem hm) rfl (by omega)) ?_   -- tinplate/convex.Valid
    rintro v Ln ⟨rfl, rfl⟩
    refine Plan.splitB (fun h11 => ?_) (fun h11 => ?_)
    · skip
      obtain ⟨u1, u2, u3, u4⟩ := validF_spec h11
      have hF : InsideF p q = (!p.any (fun v => decide (placeF q v < 0)), 0) := by rw [InsideF, if_pos (by rw [h7, h11]; rfl)]
      refine Plan.not rfl rfl rfl ?_
      refine Plan.pick (v := .bool _) rfl rfl rfl rfl ?_
      refine Plan.done ?_
      refine HW.cond_false rfl ?_
      refine HW.skip ?_
      refine HW.seq (HW.region [(0, .st), (1, .st), (2, .ef), (3, .st), (4, .st), (5, .st)] rfl rfl ?_)
      refine Plan.move (v := .slice _ _ _) rfl rfl rfl ?_
      refine Plan.makeFunc rfl rfl rfl rfl ?_
      refine Plan.callF [] 0 rfl rfl rfl (.inl rfl) (by simp) (fun w hm => containsFunc_ct A1 p c1 _ #[.pointer (some ⟨b3, 0, none⟩)] (fun v => decide (placeF q v < 0)) w (hp.mem hm) (by omega) (fun v hv L' w' hm' => by
          have h1 : w.heap[b3]? = some (.cells #[.slice A2 q.length c2] 22 (0, 0)) := hm.res _ List.mem_cons_self
          exact inside1_ct A2 q _ c2 v b3 w' ((hq.mem hm).mem hm') rfl (by omega) hl2 (fun v hv => (u3 v hv).mono (by omega)) ((v3 v hv).mono (by omega)) ((hm'.old b3 (Array.getElem?_eq_some_iff.1 h1).1 (by simp)).trans h1))) ?_   -- slices.ContainsFunc[[]tinplate/api.Vec,tinplate/api.Vec]
      rintro v Ln ⟨rfl, rfl⟩
      refine Plan.splitB (fun h16 => ?_) (fun h16 => ?_)
      · skip
        rw [h16] at hF
        refine Plan.not rfl rfl rfl ?_
        refine Plan.assign (v := .bool _) rfl rfl rfl ?_
        refine Plan.assign (v := .int _ _) rfl rfl rfl ?_
        refine Plan.done ?_
        exact HW.ret ⟨rfl, _, [], .tmp rfl (.tmp rfl .nil), List.nil_sublist _, (by rw [hF]; rfl), rfl⟩
      · skip
        rw [h16] at hF
        refine Plan.not rfl rfl rfl ?_
        refine Plan.assign (v := .bool _) rfl rfl rfl ?_
        refine Plan.assign (v := .int _ _) rfl rfl rfl ?_
        refine Plan.done ?_
        exact HW.ret ⟨rfl, _, [], .tmp rfl (.tmp rfl .nil), List.nil_sublist _, (by rw [hF]; rfl), rfl⟩
    · skip
      have hF : InsideF p q = (false, 2) := by rw [InsideF, if_neg (by rw [h7, h11]; decide)]
      refine Plan.not rfl rfl rfl ?_
      refine Plan.pick (v := .bool _) rfl rfl rfl rfl ?_
      refine Plan.done ?_
      refine HW.cond_true rfl ?_
      refine HW.seq (HW.region [(0, .st), (1, .st)] rfl rfl ?_)
      refine Plan.assign (v := .bool _) rfl rfl rfl ?_
      refine Plan.assign (v := .int _ _) rfl rfl rfl ?_
      refine Plan.done ?_
      exact HW.ret ⟨rfl, _, [], .tmp rfl (.tmp rfl .nil), List.nil_sublist _, (by rw [hF]; rfl), rfl⟩
  · skip
    have hF : InsideF p q = (false, 2) := by rw [InsideF, if_neg (by rw [h7]; simp)]
    refine Plan.not rfl rfl rfl ?_
    refine Plan.move (v := .bool _) rfl rfl rfl ?_
    refine Plan.no rfl rfl ?_
    refine Plan.noE rfl rfl ?_
    refine Plan.no rfl rfl ?_
    refine Plan.pick (v := .bool _) rfl rfl rfl rfl ?_
    refine Plan.done ?_
    refine HW.cond_true rfl ?_
    refine HW.seq (HW.region [(0, .st), (1, .st)] rfl rfl ?_)
    refine Plan.assign (v := .bool _) rfl rfl rfl ?_
    refine Plan.assign (v := .int _ _) rfl rfl rfl ?_
    refine Plan.done ?_
    exact HW.ret ⟨rfl, _, [], .tmp rfl (.tmp rfl .nil), List.nil_sublist _, (by rw [hF]; rfl), rfl⟩

end Go.Proofs.Ytoghphikfkdkmaa.V
