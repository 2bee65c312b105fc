/-
  made, mapped, Move, flip, Flip.
-/
import Derived.Test.YtjmklbkcpjmcaaaV9
namespace Go.Proofs.Ytjmklbkcpjmcaaa.V
open Go Go.RowKit Go.Proofs.Ytjmklbkcpjmcaaa.H
set_option linter.unusedVariables false
set_option linter.unusedSimpArgs false

def madeE (ps : List Pt) : Int := if ps.any (fun q => !okB q.1 q.2) then 4 else if 32 < ps.length then 8 else 0
def madeL (ps : List Pt) : List Pt := if madeE ps = 0 then ps else []

theorem made1_pred (fid : Nat) (hf : fid = 91) (q : Pt) (w : World) : PredC fid #[] (fun q => !okB q.1 q.2) w q := by
  subst hf
  intro L w hm
  refine Ct.of_body (rs := [.tmp 2]) (N := 6) (L := []) Try.func91 rfl rfl rfl (by kernel_rfl) rfl (Mem.refl w) ?_
  refine HW.seq (HW.region [(0, .ef), (1, .st)] rfl rfl ?_)
  refine Plan.boxA rfl rfl rfl fun b1 => ?_
  refine Plan.assign (v := .bool _) rfl rfl rfl ?_
  refine Plan.done ?_
  refine HW.seq (HW.region [(0, .st), (1, .ef), (2, .st), (3, .st)] rfl rfl ?_)
  refine Plan.loadAll 0 rfl rfl aggV sizV rfl rfl rfl ?_
  refine Plan.callF [] 0 rfl rfl rfl (.inl rfl) (by simp) (fun w hm => valid_ct _ _ _) ?_   -- tinplate/convex.valid
  rintro v Ln ⟨rfl, rfl⟩
  refine Plan.splitB (fun h4 => ?_) (fun h4 => ?_)
  · skip
    refine Plan.not rfl rfl rfl ?_
    refine Plan.assign (v := .bool _) rfl rfl rfl ?_
    refine Plan.done ?_
    exact HW.ret ⟨rfl, _, [], .tmp rfl .nil, List.nil_sublist _, (by show Value.bool (!true) = Value.bool (!okB q.1 q.2); rw [h4]), rfl⟩
  · skip
    refine Plan.not rfl rfl rfl ?_
    refine Plan.assign (v := .bool _) rfl rfl rfl ?_
    refine Plan.done ?_
    exact HW.ret ⟨rfl, _, [], .tmp rfl .nil, List.nil_sublist _, (by show Value.bool (!false) = Value.bool (!okB q.1 q.2); rw [h4]), rfl⟩

theorem made_ct (A : Option Addr) (ps : List Pt) (n c : Nat) (w : World) (hp : Rd enc 2 w A ps) (hn : n = ps.length) (hlen : ps.length ≤ 1000000000000) :
    Ct P 66 #[.slice A n c] w [] (fun v L => v = .tuple #[if madeE ps = 0 then .slice A n c else .slice none 0 0, int (madeE ps)] ∧ L = []) := by
  subst hn
  refine Ct.of_body (rs := [.tmp 2, .tmp 3]) (N := 12) (L := []) Try.func66 rfl rfl rfl (by kernel_rfl) rfl (Mem.refl w) ?_
  refine HW.seq (HW.region [(0, .st), (1, .st)] rfl rfl ?_)
  refine Plan.assign (v := .slice _ _ _) rfl rfl rfl ?_
  refine Plan.assign (v := .int _ _) rfl rfl rfl ?_
  refine Plan.done ?_
  refine HW.seq ?_
  refine HW.block ?_
  refine HW.seq (HW.region [(0, .st), (1, .ef), (2, .st)] rfl rfl ?_)
  refine Plan.move (v := .slice _ _ _) rfl rfl rfl ?_
  refine Plan.callF [] 0 rfl rfl rfl (.inl rfl) (by simp) (fun w hm => containsFunc_ct A ps _ _ #[] (fun q => !okB q.1 q.2) w (hp.mem hm) (by omega) (fun q _ => made1_pred _ rfl q w)) ?_   -- slices.ContainsFunc[[]tinplate/api.Vec,tinplate/api.Vec]
  rintro v Ln ⟨rfl, rfl⟩
  refine Plan.splitB (fun h6 => ?_) (fun h6 => ?_)
  · skip
    have e : madeE ps = 4 := by unfold madeE; rw [if_pos h6]
    refine Plan.assign (v := .bool _) rfl rfl rfl ?_
    refine Plan.done ?_
    refine HW.cond_true rfl ?_
    refine HW.seq (HW.region [(0, .st), (1, .st)] rfl rfl ?_)
    refine Plan.assign (v := .slice _ _ _) rfl rfl rfl ?_
    refine Plan.assign (v := .int _ _) rfl rfl rfl ?_
    refine Plan.done ?_
    exact HW.ret ⟨rfl, _, [], .tmp rfl (.tmp rfl .nil), List.nil_sublist _, (by rw [e]; rfl), rfl⟩
  · skip
    refine Plan.assign (v := .bool _) rfl rfl rfl ?_
    refine Plan.done ?_
    refine HW.cond_false rfl ?_
    refine HW.seq (HW.region [(0, .st), (1, .st), (2, .st), (3, .st)] rfl rfl ?_)
    refine Plan.move (v := .slice _ _ _) rfl rfl rfl ?_
    refine Plan.len rfl rfl slV rfl ?_
    refine Plan.cmp2 rfl rfl rfl rfl rfl (fun h10 => ?_) (fun h10 => ?_)
    · replace h10 := of_decide_eq_true h10
      have e : madeE ps = 8 := by unfold madeE; rw [if_neg (by rw [h6]; decide), if_pos (by omega)]
      refine Plan.assign (v := .bool _) rfl rfl rfl ?_
      refine Plan.done ?_
      refine HW.cond_true rfl ?_
      refine HW.seq (HW.region [(0, .st), (1, .st)] rfl rfl ?_)
      refine Plan.assign (v := .slice _ _ _) rfl rfl rfl ?_
      refine Plan.assign (v := .int _ _) rfl rfl rfl ?_
      refine Plan.done ?_
      exact HW.ret ⟨rfl, _, [], .tmp rfl (.tmp rfl .nil), List.nil_sublist _, (by rw [e]; rfl), rfl⟩
    · replace h10 := of_decide_eq_false h10
      have e : madeE ps = 0 := by unfold madeE; rw [if_neg (by rw [h6]; decide), if_neg (by omega)]
      refine Plan.assign (v := .bool _) rfl rfl rfl ?_
      refine Plan.done ?_
      refine HW.cond_false rfl ?_
      refine HW.skip ?_
      refine HW.seq (HW.region [(0, .st), (1, .st), (2, .st)] rfl rfl ?_)
      refine Plan.move (v := .slice _ _ _) rfl rfl rfl ?_
      refine Plan.assign (v := .slice _ _ _) rfl rfl rfl ?_
      refine Plan.assign (v := .int _ _) rfl rfl rfl ?_
      refine Plan.done ?_
      exact HW.ret ⟨rfl, _, [], .tmp rfl (.tmp rfl .nil), List.nil_sublist _, (by rw [e]; rfl), rfl⟩

theorem made_out (J : Jd) (o : Option Nat) (c : Nat) (xs : List Pt) (L : List Res) : ∃ o2 c2, (if madeE xs = 0 then slv o xs.length c else .slice none 0 0) = slv o2 (madeL xs).length c2 ∧ Ent J (ownV o c xs :: L) (ownV o2 c2 (madeL xs) :: L) := by
  by_cases h : madeE xs = 0
  · exact ⟨o, c, by rw [if_pos h, madeL, if_pos h], by rw [madeL, if_pos h]; exact Ent.refl _ _⟩
  · exact ⟨none, 0, by rw [if_neg h, madeL, if_neg h]; rfl, by rw [madeL, if_neg h]; exact fun w hm => (hm.sub (List.sublist_cons_self _ _)).addNil⟩

/-- a function value that maps a vector -/
def MapC (fid : Nat) (cap : Array Value) (f : Pt → Pt) (w : World) (q : Pt) : Prop :=
  ∀ L w', Mem w [] L w' → Ct P fid ([vc q] ++ cap.toList).toArray w' [] (fun v L => v = vc (f q) ∧ L = [])

structure MpG where
  k : Nat
  o : Option Nat
  c : Nat

theorem mapped_ct (A : Option Addr) (ps : List Pt) (n c : Nat) (fid : Nat) (cap : Array Value) (f : Pt → Pt) (w : World) (hp : Rd enc 2 w A ps) (hn : n = ps.length) (h0 : 0 < ps.length) (hlen : ps.length ≤ 1000000)
    (hf : ∀ q ∈ ps, MapC fid cap f w q) (hbd : ∀ q ∈ ps, Bd2 536870912 (f q).1 (f q).2) :
    Ct P 67 #[.slice A n c, .func (.func fid) #[] cap] w [] (fun v L => ∃ o c', v = slv o (hullF (ps.map f)).length c' ∧ L = [ownV o c' (hullF (ps.map f))]) := by
  subst hn
  refine Ct.of_body (rs := [.tmp 4]) (N := 23) (L := []) Try.func67 rfl rfl rfl (by kernel_rfl) rfl (Mem.refl w) ?_
  refine HW.seq (HW.region [(0, .st)] rfl rfl ?_)
  refine Plan.assign (v := .slice _ _ _) rfl rfl rfl ?_
  refine Plan.done ?_
  refine HW.seq (HW.region [(0, .st)] rfl rfl ?_)
  refine Plan.assign (v := .slice _ _ _) rfl rfl rfl ?_
  refine Plan.done ?_
  refine HW.seq ?_
  refine HW.seq (HW.region [(0, .st), (1, .st), (2, .st)] rfl rfl ?_)
  refine Plan.move (v := .slice _ _ _) rfl rfl rfl ?_
  refine Plan.len rfl rfl slV rfl ?_
  refine Plan.move (v := .int _ _) rfl rfl rfl ?_
  refine Plan.done ?_
  refine HW.block ?_
  refine HW.loopL (G := MpG) [5, 7, 10, 11, 12, 13, 14, 15, 16, 17, 18, 19, 20] (fun g => [(10, int g.k), (5, slv g.o g.k g.c)]) (fun g => [ownV g.o g.c ((ps.take g.k).map f)]) (fun g => g.k ≤ ps.length) (fun g => ps.length - g.k) (⟨0, none, 0⟩) ⟨rfl, rfl, trivial⟩ (fun w' hm => hm.addNil) (Nat.zero_le _) (fun g F hok => ?_)
  obtain ⟨k, o, c1⟩ := g
  simp only at hok
  dsimp only
  refine HW.seq (HW.region [(0, .st)] rfl rfl ?_)
  refine Plan.cmp2 rfl rfl rfl rfl rfl (fun h11 => ?_) (fun h11 => ?_)
  · replace h11 := of_decide_eq_true h11
    have hlt : k < ps.length := by omega
    obtain ⟨ad, rfl, hl1⟩ := hp k hlt
    refine Plan.done ?_
    refine HW.seq ?_
    refine HW.cond_true rfl ?_
    refine HW.skip ?_
    refine HW.seq ?_
    refine HW.block ?_
    refine HW.seq (HW.region [(0, .st), (1, .st), (2, .al), (3, .ef)] rfl rfl ?_)
    refine Plan.indexN (k) rfl rfl slV sizV rfl rfl rfl rfl (hlt) ?_
    refine Plan.loadAgg rfl rfl aggV sizV rfl (Sees.old hl1 (by simp)) rfl ?_
    refine Plan.alloc rfl zerV fun b7 => ?_
    refine Plan.storeA 0 rfl rfl hDn sizV rfl rfl rfl rfl rfl rfl ?_
    refine Plan.done ?_
    refine HW.region [(0, .st), (1, .st), (2, .st), (3, .ef), (4, .ef), (5, .ef), (6, .st)] rfl rfl ?_
    refine Plan.move (v := .slice _ _ _) rfl rfl rfl ?_
    refine Plan.move (v := .func _ _ _) rfl rfl rfl ?_
    refine Plan.loadAll 0 rfl rfl aggV sizV rfl rfl rfl ?_
    refine Plan.callV (R := fun v L => v = vc (f ps[k]) ∧ L = []) [] 0 rfl rfl rfl rfl (.inl rfl) (by simp) (fun w hm => hf ps[k] (List.getElem_mem hlt) _ w hm) ?_
    rintro v Ln ⟨rfl, rfl⟩
    refine Plan.buildOwn (xs := [f ps[k]]) (enc := enc) (sz := 2) rfl rfl rfl (bs1 _ _) rfl rfl (by simp) rfl fun b18 => ?_
    refine Plan.append (enc := enc) (sz := 2) (ys := [f ps[k]]) (2) rfl rfl hDn slV infV rfl (by decide) enc2 enc1 rfl rfl (by simp; omega) rfl rfl (Sees.ownAll 0 rfl b18 rfl) (by simp; omega) (by simp; omega) fun o19 c19 => ?_
    refine Plan.assign (v := .slice _ _ _) rfl rfl rfl ?_
    refine Plan.done ?_
    refine HW.region [(0, .st), (1, .st)] rfl rfl ?_
    refine Plan.arithI rfl rfl rfl rfl rfl (by omega) ?_
    refine Plan.move (v := .int _ _) rfl rfl rfl ?_
    refine Plan.done ?_
    exact ⟨⟨k + 1, o19, c19⟩, by simp only; omega, hlt, rfl, (fun w' hm => by
        have e : (ps.take (k + 1)).map f = (ps.take k).map f ++ [f ps[k]] := by rw [List.take_add_one, List.getElem?_eq_getElem hlt, List.map_append]; rfl
        show Mem _ _ [ownV o19 c19 ((ps.take (k + 1)).map f)] w'
        rw [e]
        exact hm.sub (.cons _ (.cons _ (.refl _)))), (by repeat (first | exact Agree.havoc _ _ _ | refine Agree.updN ?_ | refine Agree.upd rfl ?_ | refine Agree.updL rfl ?_ | refine Agree.havoc2 rfl ?_)), ⟨rfl, slv_eq (by simp; omega), trivial⟩⟩
  · replace h11 := of_decide_eq_false h11
    have hke : k = ps.length := by omega
    rw [hke, List.take_length]
    refine Plan.done ?_
    refine HW.seq ?_
    refine HW.cond_false rfl ?_
    refine HW.exit ?_
    refine HW.pure (p := ∃ b, o = some b) (fun w' hm => Res.own_some (hm.res _ List.mem_cons_self) (by simpa using h0)) fun hb => ?_
    obtain ⟨b, rfl⟩ := hb
    refine HW.seq (HW.region [(0, .st), (1, .ef), (2, .st)] rfl rfl ?_)
    refine Plan.move (v := .slice _ _ _) rfl rfl rfl ?_
    refine Plan.callF [] 0 rfl rfl rfl (.inl rfl) (by simp) (fun w hm => hull_ct ⟨b, 0, none⟩ (ps.map f) c1 _ w (Res.own_rd enc2 (hm.res _ List.mem_cons_self)) (by simp) (by simpa using h0) (by simp; omega) (fun q hq => by obtain ⟨r, hr, rfl⟩ := List.mem_map.1 hq; exact hbd r hr)) ?_   -- tinplate/convex.hull
    rintro v Ln ⟨o2, c2, rfl, rfl⟩
    refine Plan.assign (v := .slice _ _ _) rfl rfl rfl ?_
    refine Plan.done ?_
    exact HW.ret ⟨rfl, _, [ownV o2 c2 (hullF (ps.map f))], .tmp rfl .nil, .cons_cons _ (List.nil_sublist _), o2, c2, rfl, rfl⟩

def vAdd (v q : Pt) : Pt := (q.1 + v.1, q.2 + v.2)
def vNeg (q : Pt) : Pt := (0 - q.1, 0 - q.2)

theorem move1_ct (q v : Pt) (bx : Nat) (w : World) (hbx : w.heap[bx]? = some (.cells #[int v.1, int v.2] 52 (0, 0))) (hq : Bd2 1099511627776 q.1 q.2) (hv : Bd2 1099511627776 v.1 v.2) :
    Ct P 68 #[vc q, .pointer (some ⟨bx, 0, none⟩)] w [] (fun r L => r = vc (vAdd v q) ∧ L = []) := by
  have hbox : Lies w ⟨bx, 0, none⟩ [int v.1, int v.2] := fun j u hu => by
    rw [Addr.add_lit, cell_of_heap hbx, Nat.zero_add]
    simpa using hu
  refine Ct.of_body (rs := [.cell 3 52]) (N := 7) (L := []) Try.func68 rfl rfl rfl (by kernel_rfl) rfl (Mem.refl w) ?_
  refine HW.seq (HW.region [(0, .ef), (1, .al)] rfl rfl ?_)
  refine Plan.boxA rfl rfl rfl fun b2 => ?_
  refine Plan.alloc rfl zerV fun b3 => ?_
  refine Plan.done ?_
  refine HW.seq (HW.region [(0, .st), (1, .st), (2, .ef), (3, .ef)] rfl rfl ?_)
  refine Plan.loadAll 1 rfl rfl aggV sizV rfl rfl rfl ?_
  refine Plan.loadAgg rfl rfl aggV sizV rfl (Sees.old hbox (by simp)) rfl ?_
  refine Plan.callF [] 0 rfl rfl rfl (.inl rfl) (by simp) (fun w hm => plus_ct _ _ _ _ w hq hv) ?_   -- tinplate/convex.plus
  rintro v Ln ⟨rfl, rfl⟩
  refine Plan.storeA 0 rfl rfl hDn sizV rfl rfl rfl rfl rfl rfl ?_
  refine Plan.done ?_
  exact HW.ret ⟨rfl, _, [], .cell rfl (own_loadAgg 0 rfl aggV sizV rfl) .nil, List.nil_sublist _, rfl, rfl⟩

theorem flip1_ct (q : Pt) (w : World) (hq : Bd2 1099511627776 q.1 q.2) : Ct P 101 #[vc q] w [] (fun r L => r = vc (vNeg q) ∧ L = []) := by
  refine Ct.of_body (rs := [.cell 2 52]) (N := 6) (L := []) Try.func101 rfl rfl rfl (by kernel_rfl) rfl (Mem.refl w) ?_
  refine HW.seq (HW.region [(0, .ef), (1, .al)] rfl rfl ?_)
  refine Plan.boxA rfl rfl rfl fun b1 => ?_
  refine Plan.alloc rfl zerV fun b2 => ?_
  refine Plan.done ?_
  refine HW.seq (HW.region [(0, .st), (1, .st), (2, .ef), (3, .ef)] rfl rfl ?_)
  refine Plan.build rfl rfl rfl (bld0) ?_
  refine Plan.loadAll 1 rfl rfl aggV sizV rfl rfl rfl ?_
  refine Plan.callF [] 0 rfl rfl rfl (.inl rfl) (by simp) (fun w hm => minus_ct 0 0 _ _ w ⟨⟨by omega, by omega⟩, ⟨by omega, by omega⟩⟩ hq) ?_   -- tinplate/convex.minus
  rintro v Ln ⟨rfl, rfl⟩
  refine Plan.storeA 0 rfl rfl hDn sizV rfl rfl rfl rfl rfl rfl ?_
  refine Plan.done ?_
  exact HW.ret ⟨rfl, _, [], .cell rfl (own_loadAgg 0 rfl aggV sizV rfl) .nil, List.nil_sublist _, rfl, rfl⟩

def MoveF (ps : List Pt) (v : Pt) : List Pt × Int := if validF ps && okB v.1 v.2 then (madeL (hullF (ps.map (vAdd v))), madeE (hullF (ps.map (vAdd v)))) else ([], 2)
def FlipF (ps : List Pt) : List Pt × Int := if validF ps then (hullF (ps.map vNeg), 0) else ([], 2)

theorem Move_ct (A : Option Addr) (ps : List Pt) (v : Pt) (n c : Nat) (w : World) (hp : Rd enc 2 w A ps) (hn : n = ps.length) (hlen : ps.length ≤ 1000000) :
    Ct P 32 #[.slice A n c, vc v] w [] (fun r L => ∃ o c', r = .tuple #[slv o (MoveF ps v).1.length c', int (MoveF ps v).2] ∧ L = [ownV o c' (MoveF ps v).1]) := by
  subst hn
  refine Ct.of_body (rs := [.tmp 4, .tmp 5]) (N := 20) (L := []) Try.func32 rfl rfl rfl (by kernel_rfl) rfl (Mem.refl w) ?_
  refine HW.seq (HW.region [(0, .ef), (1, .st), (2, .st)] rfl rfl ?_)
  refine Plan.boxA rfl rfl rfl fun b3 => ?_
  refine Plan.assign (v := .slice _ _ _) rfl rfl rfl ?_
  refine Plan.assign (v := .int _ _) rfl rfl rfl ?_
  refine Plan.done ?_
  refine HW.seq ?_
  refine HW.seq (HW.region [(0, .st), (1, .ef), (2, .st), (3, .st), (4, .st), (5, .ef), (6, .st), (7, .st)] rfl rfl ?_)
  refine Plan.move (v := .slice _ _ _) rfl rfl rfl ?_
  refine Plan.callF [] 0 rfl rfl rfl (.inl rfl) (by simp) (fun w hm => Valid_ct A ps c _ w (hp.mem hm) rfl (by omega)) ?_   -- tinplate/convex.Valid
  rintro v Ln ⟨rfl, rfl⟩
  refine Plan.splitB (fun h7 => ?_) (fun h7 => ?_)
  · skip
    obtain ⟨v1, v2, v3, v4⟩ := validF_spec h7
    refine Plan.not rfl rfl rfl ?_
    refine Plan.move (v := .bool _) rfl rfl rfl ?_
    refine Plan.loadAll 0 rfl rfl aggV sizV rfl rfl rfl ?_
    refine Plan.callF [] 0 rfl rfl rfl (.inl rfl) (by simp) (fun w hm => valid_ct v.1 v.2 w) ?_   -- tinplate/convex.valid
    rintro v Ln ⟨rfl, rfl⟩
    refine Plan.splitB (fun h11 => ?_) (fun h11 => ?_)
    · skip
      have hb := okB_bd h11
      have hF : MoveF ps v = (madeL (hullF (ps.map (vAdd v))), madeE (hullF (ps.map (vAdd v)))) := by rw [MoveF, if_pos (by rw [h7, h11]; rfl)]
      refine Plan.not rfl rfl rfl ?_
      refine Plan.pick (v := .bool _) rfl rfl rfl rfl ?_
      refine Plan.done ?_
      refine HW.cond_false rfl ?_
      refine HW.skip ?_
      refine HW.seq (HW.region [(0, .st), (1, .st), (2, .ef), (3, .ef), (4, .st), (5, .st), (6, .st), (7, .st)] rfl rfl ?_)
      refine Plan.move (v := .slice _ _ _) rfl rfl rfl ?_
      refine Plan.makeFunc rfl rfl rfl rfl ?_
      refine Plan.callF [] 0 rfl rfl rfl (.inl rfl) (by simp) (fun w hm => mapped_ct A ps _ c _ #[.pointer (some ⟨b3, 0, none⟩)] (vAdd v) w (hp.mem hm) rfl (by omega) hlen (fun q hq L' w' hm' => by
          have h1 : w.heap[b3]? = some (.cells #[int v.1, int v.2] 52 (0, 0)) := hm.res _ List.mem_cons_self
          exact move1_ct q v b3 w' ((hm'.old b3 (Array.getElem?_eq_some_iff.1 h1).1 (by simp)).trans h1) ((v3 q hq).mono (by omega)) (hb.mono (by omega))) (fun q hq => by
          obtain ⟨⟨_, _⟩, ⟨_, _⟩⟩ := v3 q hq
          obtain ⟨⟨_, _⟩, ⟨_, _⟩⟩ := hb
          exact ⟨⟨by simp only [vAdd]; omega, by simp only [vAdd]; omega⟩, ⟨by simp only [vAdd]; omega, by simp only [vAdd]; omega⟩⟩)) ?_   -- tinplate/convex.mapped
      rintro v Ln ⟨o, c1, rfl, rfl⟩
      have hFl := hullF_len (ps.map (vAdd v)); rw [List.length_map] at hFl
      refine Plan.callF [] 0 rfl rfl rfl (.inl rfl) (by simp) (fun w hm => made_ct (at0 o) (hullF (ps.map (vAdd v))) _ c1 w (Res.own_rd enc2 (hm.res _ List.mem_cons_self)) rfl (by omega)) ?_   -- tinplate/convex.made
      rintro v Ln ⟨rfl, rfl⟩
      obtain ⟨o2, c2, he, hE⟩ := made_out ⟨P, none, 20, w, []⟩ o c1 (hullF (ps.map (vAdd v))) [Res.blk b3 #[int v.1, int v.2] 52]
      rw [he]
      refine Plan.extract (v := .slice _ _ _) rfl rfl rfl rfl ?_
      refine Plan.extract (v := .int _ _) rfl rfl rfl rfl ?_
      refine Plan.assign (v := .slice _ _ _) rfl rfl rfl ?_
      refine Plan.assign (v := .int _ _) rfl rfl rfl ?_
      refine Plan.done ?_
      refine HW.ent ?_ hE
      exact HW.ret ⟨rfl, _, [ownV o2 c2 (madeL (hullF (ps.map (vAdd v))))], .tmp rfl (.tmp rfl .nil), .cons_cons _ (List.nil_sublist _), o2, c2, (by rw [hF]; rfl), by rw [hF]⟩
    · skip
      have hF : MoveF ps v = ([], 2) := by rw [MoveF, if_neg (by rw [h7, h11]; decide)]
      refine Plan.not rfl rfl rfl ?_
      refine Plan.pick (v := .bool _) rfl rfl rfl rfl ?_
      refine Plan.done ?_
      refine HW.cond_true rfl ?_
      refine HW.seq (HW.region [(0, .st), (1, .st)] rfl rfl ?_)
      refine Plan.assign (v := .slice _ _ _) rfl rfl rfl ?_
      refine Plan.assign (v := .int _ _) rfl rfl rfl ?_
      refine Plan.done ?_
      refine HW.addNil enc 2 52 ?_
      exact HW.ret ⟨rfl, _, [ownV none 0 []], .tmp rfl (.tmp rfl .nil), .cons_cons _ (List.nil_sublist _), none, 0, (by rw [hF]; rfl), by rw [hF]⟩
  · skip
    have hF : MoveF ps v = ([], 2) := by rw [MoveF, if_neg (by rw [h7]; simp)]
    refine Plan.not rfl rfl rfl ?_
    refine Plan.move (v := .bool _) rfl rfl rfl ?_
    refine Plan.no rfl rfl ?_
    refine Plan.noE rfl rfl ?_
    refine Plan.no rfl rfl ?_
    refine Plan.pick (v := .bool _) rfl rfl rfl rfl ?_
    refine Plan.done ?_
    refine HW.cond_true rfl ?_
    refine HW.seq (HW.region [(0, .st), (1, .st)] rfl rfl ?_)
    refine Plan.assign (v := .slice _ _ _) rfl rfl rfl ?_
    refine Plan.assign (v := .int _ _) rfl rfl rfl ?_
    refine Plan.done ?_
    refine HW.addNil enc 2 52 ?_
    exact HW.ret ⟨rfl, _, [ownV none 0 []], .tmp rfl (.tmp rfl .nil), .cons_cons _ (List.nil_sublist _), none, 0, (by rw [hF]; rfl), by rw [hF]⟩

theorem flip_ct (A : Option Addr) (ps : List Pt) (n c : Nat) (w : World) (hp : Rd enc 2 w A ps) (hn : n = ps.length) (h0 : 0 < ps.length) (hlen : ps.length ≤ 1000000) (hbd : ∀ q ∈ ps, Bd2 100000 q.1 q.2) :
    Ct P 75 #[.slice A n c] w [] (fun r L => ∃ o c', r = slv o (hullF (ps.map vNeg)).length c' ∧ L = [ownV o c' (hullF (ps.map vNeg))]) := by
  subst hn
  refine Ct.of_body (rs := [.tmp 2]) (N := 5) (L := []) Try.func75 rfl rfl rfl (by kernel_rfl) rfl (Mem.refl w) ?_
  refine HW.seq (HW.region [(0, .st)] rfl rfl ?_)
  refine Plan.assign (v := .slice _ _ _) rfl rfl rfl ?_
  refine Plan.done ?_
  refine HW.seq (HW.region [(0, .st), (1, .ef), (2, .st)] rfl rfl ?_)
  refine Plan.move (v := .slice _ _ _) rfl rfl rfl ?_
  refine Plan.callF [] 0 rfl rfl rfl (.inl rfl) (by simp) (fun w hm => mapped_ct A ps _ c _ #[] vNeg w (hp.mem hm) rfl h0 hlen (fun q hq L' w' hm' => flip1_ct q w' ((hbd q hq).mono (by omega))) (fun q hq => by
      obtain ⟨⟨_, _⟩, ⟨_, _⟩⟩ := hbd q hq
      exact ⟨⟨by simp only [vNeg]; omega, by simp only [vNeg]; omega⟩, ⟨by simp only [vNeg]; omega, by simp only [vNeg]; omega⟩⟩)) ?_   -- tinplate/convex.mapped
  rintro v Ln ⟨o, c1, rfl, rfl⟩
  refine Plan.assign (v := .slice _ _ _) rfl rfl rfl ?_
  refine Plan.done ?_
  exact HW.ret ⟨rfl, _, [ownV o c1 (hullF (ps.map vNeg))], .tmp rfl .nil, .cons_cons _ (List.nil_sublist _), o, c1, rfl, rfl⟩

theorem Flip_ct (A : Option Addr) (ps : List Pt) (n c : Nat) (w : World) (hp : Rd enc 2 w A ps) (hn : n = ps.length) (hlen : ps.length ≤ 1000000) :
    Ct P 39 #[.slice A n c] w [] (fun r L => ∃ o c', r = .tuple #[slv o (FlipF ps).1.length c', int (FlipF ps).2] ∧ L = [ownV o c' (FlipF ps).1]) := by
  subst hn
  refine Ct.of_body (rs := [.tmp 2, .tmp 3]) (N := 9) (L := []) Try.func39 rfl rfl rfl (by kernel_rfl) rfl (Mem.refl w) ?_
  refine HW.seq (HW.region [(0, .st), (1, .st)] rfl rfl ?_)
  refine Plan.assign (v := .slice _ _ _) rfl rfl rfl ?_
  refine Plan.assign (v := .int _ _) rfl rfl rfl ?_
  refine Plan.done ?_
  refine HW.seq ?_
  refine HW.seq (HW.region [(0, .st), (1, .ef), (2, .st)] rfl rfl ?_)
  refine Plan.move (v := .slice _ _ _) rfl rfl rfl ?_
  refine Plan.callF [] 0 rfl rfl rfl (.inl rfl) (by simp) (fun w hm => Valid_ct A ps c _ w (hp.mem hm) rfl (by omega)) ?_   -- tinplate/convex.Valid
  rintro v Ln ⟨rfl, rfl⟩
  refine Plan.splitB (fun h5 => ?_) (fun h5 => ?_)
  · skip
    obtain ⟨v1, v2, v3, v4⟩ := validF_spec h5
    have hF : FlipF ps = (hullF (ps.map vNeg), 0) := by rw [FlipF, if_pos h5]
    refine Plan.not rfl rfl rfl ?_
    refine Plan.done ?_
    refine HW.cond_false rfl ?_
    refine HW.skip ?_
    refine HW.seq (HW.region [(0, .st), (1, .ef), (2, .st), (3, .st)] rfl rfl ?_)
    refine Plan.move (v := .slice _ _ _) rfl rfl rfl ?_
    refine Plan.callF [] 0 rfl rfl rfl (.inl rfl) (by simp) (fun w hm => flip_ct A ps _ c w (hp.mem hm) rfl (by omega) hlen (fun q hq => (v3 q hq).mono (by omega))) ?_   -- tinplate/convex.flip
    rintro v Ln ⟨o, c1, rfl, rfl⟩
    refine Plan.assign (v := .slice _ _ _) rfl rfl rfl ?_
    refine Plan.assign (v := .int _ _) rfl rfl rfl ?_
    refine Plan.done ?_
    exact HW.ret ⟨rfl, _, [ownV o c1 (hullF (ps.map vNeg))], .tmp rfl (.tmp rfl .nil), .cons_cons _ (List.nil_sublist _), o, c1, (by rw [hF]; rfl), by rw [hF]⟩
  · skip
    have hF : FlipF ps = ([], 2) := by rw [FlipF, if_neg (by rw [h5]; decide)]
    refine Plan.not rfl rfl rfl ?_
    refine Plan.done ?_
    refine HW.cond_true rfl ?_
    refine HW.seq (HW.region [(0, .st), (1, .st)] rfl rfl ?_)
    refine Plan.assign (v := .slice _ _ _) rfl rfl rfl ?_
    refine Plan.assign (v := .int _ _) rfl rfl rfl ?_
    refine Plan.done ?_
    refine HW.addNil enc 2 52 ?_
    exact HW.ret ⟨rfl, _, [ownV none 0 []], .tmp rfl (.tmp rfl .nil), .cons_cons _ (List.nil_sublist _), none, 0, (by rw [hF]; rfl), by rw [hF]⟩

end Go.Proofs.Ytjmklbkcpjmcaaa.V
