/-
  place, Place, Area, extreme, Extreme.
-/
import Derived.Test.YtoghphikfkdkmaaV7
import Derived.Test.YtoghphikfkdkmaaH8
namespace Go.Proofs.Ytoghphikfkdkmaa.V
open Go Go.RowKit Go.Proofs.Ytoghphikfkdkmaa.H
set_option linter.unusedVariables false
set_option linter.unusedSimpArgs false

theorem trn_bd {a b c : Pt} : True := trivial

/-- on which side of edge k a point is -/
def side (ps : List Pt) (v : Pt) (k : Nat) : Int := trn (nth ps k) (nx ps k) v
/-- where a point lies -/
def placeF (ps : List Pt) (v : Pt) : Int :=
  if ∃ k, k < ps.length ∧ side ps v k < 0 then -1 else if ∃ k, k < ps.length ∧ side ps v k = 0 then 0 else 1

theorem placeF_neg {ps : List Pt} {v : Pt} {k : Nat} (hk : k < ps.length) (h : side ps v k < 0) : placeF ps v = -1 := if_pos ⟨k, hk, h⟩

structure PlG where
  at' : Int
  res : Int

theorem place_ct (A : Option Addr) (ps : List Pt) (v : Pt) (n c : Nat) (w : World) (hp : Rd enc 2 w A ps) (hn : n = ps.length) (h0 : 0 < ps.length) (hlen : ps.length ≤ 1000000) (hbd : ∀ q ∈ ps, Bd2 100000 q.1 q.2) (hv : Bd2 100000 v.1 v.2) :
    Ct P 33 #[.slice A n c, vc v] w [] (fun r L => r = int (placeF ps v) ∧ L = []) := by
  subst hn
  refine Ct.of_bodyM (rs := [.cell 4 3]) (N := 24) (L := []) Try.func33 rfl rfl rfl (by kernel_rfl) rfl (Mem.refl w) ?_
  refine HW.seq (HW.region [(0, .ef), (1, .al)] rfl rfl ?_)
  refine Plan.boxA rfl rfl rfl fun b3 => ?_
  refine Plan.alloc rfl zerI fun b4 => ?_
  refine Plan.done ?_
  refine HW.seq (HW.region [(0, .al), (1, .ef)] rfl rfl ?_)
  refine Plan.alloc rfl zerI fun b5 => ?_
  refine Plan.storeI 0 rfl rfl hDn sizI rfl rfl rfl rfl ?_
  refine Plan.done ?_
  refine HW.seq ?_
  refine HW.seq (HW.region [(0, .st), (1, .ef)] rfl rfl ?_)
  refine Plan.move (v := .slice _ _ _) rfl rfl rfl ?_
  refine Plan.callF [] 0 rfl rfl rfl (.inl rfl) (by simp) (fun w hm => edges_ct A ps.length c w) ?_   -- tinplate/convex.edges
  rintro v Ln ⟨bx, rfl, rfl⟩
  refine Plan.done ?_
  refine HW.block ?_
  refine HW.rangeFunc (G := PlG) (ps.length) (edgeA ps) (fun g => [Res.blk b5 #[int g.at'] 3, Res.blk b4 #[int g.res] 3, Res.blk b3 #[int v.1, int v.2] 36]) ([Res.blk bx #[.slice A ps.length c] 22]) (fun k g => g.res = 0 ∧ (∀ j, j < k → 0 ≤ side ps v j) ∧ ((g.at' = 1 ∧ ∀ j, j < k → side ps v j ≠ 0) ∨ (g.at' = 0 ∧ ∃ j, j < k ∧ side ps v j = 0))) (fun c g => c = .ret ∧ g.res = -1 ∧ placeF ps v = -1) (⟨1, 0⟩) rfl rfl rfl (fun _ => rfl) (fun w hm => hm.perm (by
        show [_, _, _, _].Perm [_, _, _, _]
        exact ((List.perm_middle (l₁ := [_, _, _]) (l₂ := [])).symm))) (⟨rfl, fun j hj => absurd hj (Nat.not_lt_zero _), .inl ⟨rfl, fun j hj => absurd hj (Nat.not_lt_zero _)⟩⟩) (fun w1 X1 hm1 hX1 => edges_seq rfl rfl hp rfl (by omega) hm1 hX1 List.mem_cons_self) (fun l k g wa wb hk hok hma hmb => ?_) (fun D g hok => ?_) (fun D c g hok => ?_)
  · skip
    refine HW.seq (HW.region [(0, .al), (1, .ef)] rfl rfl ?_)
    refine Plan.alloc rfl zerV fun b6 => ?_
    refine Plan.storeA 0 rfl rfl hDn sizV rfl rfl rfl rfl rfl rfl ?_
    refine Plan.done ?_
    refine HW.region [(0, .al), (1, .ef)] rfl rfl ?_
    refine Plan.alloc rfl zerV fun b7 => ?_
    refine Plan.storeA 0 rfl rfl hDn sizV rfl rfl rfl rfl rfl rfl ?_
    refine Plan.done ?_
    obtain ⟨at1, res1⟩ := g
    obtain ⟨hres, hpos, hat⟩ := hok
    simp only at hres hat
    refine HW.block ?_
    refine HW.seq (HW.region [(0, .st), (1, .st), (2, .st), (3, .ef), (4, .st)] rfl rfl ?_)
    refine Plan.loadAll 1 rfl rfl aggV sizV rfl rfl rfl ?_
    refine Plan.loadAll 0 rfl rfl aggV sizV rfl rfl rfl ?_
    refine Plan.loadAll 4 rfl rfl aggV sizV rfl rfl rfl ?_
    refine Plan.callF [] 0 rfl rfl rfl (.inl rfl) (by simp) (fun w hm => turn_ct _ _ _ _ _ _ w ((hbd _ (nth_mem hk)).mono (by omega)) ((hbd _ (nx_mem hk)).mono (by omega)) (hv.mono (by omega))) ?_   -- tinplate/convex.turn
    rintro v Ln ⟨rfl, rfl⟩
    refine Plan.assign (v := .int _ _) rfl rfl rfl ?_
    refine Plan.done ?_
    refine HW.block ?_
    refine HW.seq (HW.region [(0, .st), (1, .st), (2, .st)] rfl rfl ?_)
    refine Plan.move (v := .int _ _) rfl rfl rfl ?_
    refine Plan.cmp2 rfl rfl rfl rfl rfl (fun h19 => ?_) (fun h19 => ?_)
    · replace h19 := of_decide_eq_true h19
      have h19' : side ps v k < 0 := h19
      refine Plan.assign (v := .bool _) rfl rfl rfl ?_
      refine Plan.done ?_
      refine HW.cond_true rfl ?_
      refine HW.seq (HW.region [(0, .ef)] rfl rfl ?_)
      refine Plan.storeI 3 rfl rfl hDn sizI rfl rfl rfl rfl ?_
      refine Plan.done ?_
      exact HW.ret ⟨⟨at1, -1⟩, ⟨rfl, rfl, placeF_neg hk h19'⟩, Ent.sub (.cons _ (.cons _ (.refl _)))⟩
    · replace h19 := of_decide_eq_false h19
      have h19' : ¬ side ps v k < 0 := h19
      refine Plan.assign (v := .bool _) rfl rfl rfl ?_
      refine Plan.done ?_
      refine HW.cond_false rfl ?_
      refine HW.seq (HW.region [(0, .st), (1, .st), (2, .st)] rfl rfl ?_)
      refine Plan.move (v := .int _ _) rfl rfl rfl ?_
      refine Plan.cmp2 rfl rfl rfl rfl rfl (fun h22 => ?_) (fun h22 => ?_)
      · replace h22 := of_decide_eq_true h22
        have h22' : side ps v k = 0 := h22
        refine Plan.assign (v := .bool _) rfl rfl rfl ?_
        refine Plan.done ?_
        refine HW.cond_true rfl ?_
        refine HW.region [(0, .ef)] rfl rfl ?_
        refine Plan.storeI 2 rfl rfl hDn sizI rfl rfl rfl rfl ?_
        refine Plan.done ?_
        exact ⟨⟨0, res1⟩, ⟨hres, fun j hj => by rcases Nat.lt_succ_iff_lt_or_eq.1 hj with h | rfl; exact hpos j h; omega, .inr ⟨rfl, k, Nat.lt_succ_self k, h22'⟩⟩, Ent.sub (.cons _ (.cons _ (.refl _)))⟩
      · replace h22 := of_decide_eq_false h22
        have h22' : ¬ side ps v k = 0 := h22
        refine Plan.assign (v := .bool _) rfl rfl rfl ?_
        refine Plan.done ?_
        refine HW.cond_false rfl ?_
        refine HW.skip ?_
        exact ⟨⟨at1, res1⟩, ⟨hres, fun j hj => by rcases Nat.lt_succ_iff_lt_or_eq.1 hj with h | rfl; exact hpos j h; omega, hat.imp (fun h => ⟨h.1, fun j hj => by rcases Nat.lt_succ_iff_lt_or_eq.1 hj with h' | rfl; exact h.2 j h'; exact h22'⟩) (fun ⟨h, j, h1, h2⟩ => ⟨h, j, by omega, h2⟩)⟩, Ent.sub (.cons _ (.cons _ (.refl _)))⟩
  · skip
    obtain ⟨at1, res1⟩ := g
    obtain ⟨hres, hpos, hat⟩ := hok
    simp only at hres hat
    have hpl : placeF ps v = at1 := by
      unfold placeF
      rw [if_neg (fun ⟨k, h1, h2⟩ => by have := hpos k h1; omega)]
      rcases hat with ⟨h1, h2⟩ | ⟨h1, h2⟩
      · rw [if_neg (fun ⟨k, h3, h4⟩ => h2 k h3 h4), h1]
      · rw [if_pos h2, h1]
    refine HW.seq (HW.region [(0, .st), (1, .ef)] rfl rfl ?_)
    refine Plan.load (v := .int _ _) rfl rfl aggI rfl (Sees.one 1 rfl rfl) ?_
    refine Plan.storeI 2 rfl rfl hDn sizI rfl rfl rfl rfl ?_
    refine Plan.done ?_
    exact HW.ret ⟨[D], _, [Res.blk b5 #[int at1] 3, Res.blk b4 #[int at1] 3], [], rfl, Ent.sub (.cons_cons _ (.cons_cons _ (.cons_cons _ (List.nil_sublist _)))), .cell rfl (own_loadOne 1 rfl aggI rfl) .nil, List.nil_sublist _, (by rw [hpl]; rfl), rfl⟩
  · skip
    obtain ⟨at1, res1⟩ := g
    obtain ⟨rfl, hres, hpl⟩ := hok
    simp only at hres
    subst hres
    exact HW.ret ⟨[D], _, [Res.blk b5 #[int at1] 3, Res.blk b4 #[int (-1)] 3], [], rfl, Ent.sub (.cons_cons _ (.cons_cons _ (.cons_cons _ (List.nil_sublist _)))), (.cell rfl (own_loadOne 1 rfl aggI rfl) .nil), List.nil_sublist _, (by rw [hpl]; rfl), rfl⟩

end Go.Proofs.Ytoghphikfkdkmaa.V
