/-
  The chain of hull, and slices.Clone at vectors.
-/
import Derived.Test.YtjmklbkcpjmcaaaV1
import Derived.Test.YtjmklbkcpjmcaaaH5
namespace Go.Proofs.Ytjmklbkcpjmcaaa.V
open Go Go.RowKit Go.Proofs.Ytjmklbkcpjmcaaa.H
set_option linter.unusedVariables false
set_option linter.unusedSimpArgs false

theorem infV : ∃ ti, P.info? 52 = some ti ∧ (ti.zero, ti.size, ti.bytes) = (some (vec 0 0), 2, 16) := by
  have h : (P.info? 52).map (fun i => (i.zero, i.size, i.bytes)) = some (some (vec 0 0), 2, 16) := by kernel_rfl
  cases hi : P.info? 52 with
  | none => rw [hi] at h; cases h
  | some ti => rw [hi] at h; exact ⟨ti, rfl, by injection h⟩
theorem bs0 (w : World) : (Instr.buildSlice 22 0 #[]).run P w = .ok (.slice (some ⟨w.heap.size, 0, none⟩) 0 0) (w.alloc (.cells #[] 52 (0, 0))) := by kernel_rfl
theorem bs1 (a b : Int) (w : World) : (Instr.buildSlice 22 1 #[(0, vec a b)]).run P w = .ok (.slice (some ⟨w.heap.size, 0, none⟩) 1 1) (w.alloc (.cells #[int a, int b] 52 (0, 0))) := by kernel_rfl
theorem enc2 (x : Pt) : (enc x).length = 2 := rfl
theorem enc1 (x : Pt) : (enc x).all (·.oneCell') = true := rfl

/-- a slice of vectors of one's own -/
abbrev ownV (o : Option Nat) (c : Nat) (xs : List Pt) : Res := Res.own enc 2 52 o c xs

theorem clone_ct (a : Addr) (ps : List Pt) (c : Nat) (w : World) (hp : Rd enc 2 w (some a) ps) (hlen : ps.length ≤ 1099511627776) :
    Ct P 107 #[.slice (some a) ps.length c] w [] (fun v L => ∃ o c', v = slv o ps.length c' ∧ L = [ownV o c' ps]) := by
  refine Ct.of_body (rs := [.tmp 2]) (N := 8) (L := []) Try.func107 rfl rfl rfl (by kernel_rfl) rfl (Mem.refl w) ?_
  refine HW.seq (HW.region [(0, .st)] rfl rfl ?_)
  refine Plan.assign (v := .slice _ _ _) rfl rfl rfl ?_
  refine Plan.done ?_
  refine HW.seq ?_
  refine HW.seq (HW.region [(0, .st), (1, .st)] rfl rfl ?_)
  refine Plan.move (v := .slice _ _ _) rfl rfl rfl ?_
  refine Plan.eqNil rfl rfl slV rfl rfl ?_
  refine Plan.done ?_
  refine HW.cond_false rfl ?_
  refine HW.skip ?_
  refine HW.seq (HW.region [(0, .ef), (1, .st), (2, .ef), (3, .st)] rfl rfl ?_)
  refine Plan.buildOwn (xs := ([] : List Pt)) (enc := enc) (sz := 2) rfl rfl rfl bs0 rfl rfl (by simp) rfl fun b5 => ?_
  refine Plan.move (v := .slice _ _ _) rfl rfl rfl ?_
  refine Plan.append (enc := enc) (sz := 2) (ys := ps) 0 rfl rfl hDn slV infV rfl (by decide) enc2 enc1 rfl rfl rfl rfl rfl (Sees.rdAll enc2 hp rfl) (by simp; omega) (by simp; omega) fun o' c' => ?_
  refine Plan.assign (v := .slice _ _ _) rfl rfl rfl ?_
  refine Plan.done ?_
  exact HW.ret ⟨rfl, [slv o' _ c'], [ownV o' c' ps], .tmp rfl .nil, .refl _, o', c', by simp [packed], rfl⟩

/-- twice the area of the triangle -/
def trn (a b c : Pt) : Int := turnI a.1 a.2 b.1 b.2 c.1 c.2

/-- the stack from its top: what is popped for v -/
def popR (v : Pt) : List Pt → List Pt
  | b :: a :: r => if trn a b v ≤ 0 then popR v (a :: r) else b :: a :: r
  | l => l

def chainR : List Pt → List Pt → List Pt
  | acc, [] => acc
  | acc, v :: l => chainR (v :: popR v acc) l

theorem popR_sub (v : Pt) : ∀ l, (popR v l).Sublist l
  | [] => .refl _
  | [x] => .refl _
  | b :: a :: r => by
    unfold popR
    split
    · exact (popR_sub v (a :: r)).cons _
    · exact .refl _

structure ChG where
  k : Nat
  rs : List Pt
  o : Option Nat
  c : Nat

theorem chain_ct (A : Option Addr) (ps : List Pt) (c : Nat) (w : World) (hp : Rd enc 2 w A ps) (hlen : ps.length ≤ 1099511627776) (hbd : ∀ q ∈ ps, Bd2 536870912 q.1 q.2) :
    Ct P 111 #[.slice A ps.length c] w [] (fun v L => ∃ o c', v = slv o (chainR [] ps).length c' ∧ L = [ownV o c' (chainR [] ps).reverse]) := by
  refine Ct.of_body (rs := [.tmp 2]) (N := 43) (L := []) Try.func111 rfl rfl rfl (by kernel_rfl) rfl (Mem.refl w) ?_
  refine HW.seq (HW.region [(0, .st)] rfl rfl ?_)
  refine Plan.assign (v := .slice _ _ _) rfl rfl rfl ?_
  refine Plan.done ?_
  refine HW.seq (HW.region [(0, .st)] rfl rfl ?_)
  refine Plan.assign (v := .slice _ _ _) rfl rfl rfl ?_
  refine Plan.done ?_
  refine HW.seq ?_
  refine HW.seq (HW.region [(0, .st), (1, .st), (2, .st)] rfl rfl ?_)
  refine Plan.move (v := .slice _ _ _) rfl rfl rfl ?_
  refine Plan.len rfl rfl slV rfl ?_
  refine Plan.move (v := .int _ _) rfl rfl rfl ?_
  refine Plan.done ?_
  refine HW.block ?_
  refine HW.loopL (G := ChG) [3, 5, 8, 9, 10, 11, 12, 13, 14, 15, 16, 17, 18, 19, 20, 21, 22, 23, 24, 25, 26, 27, 28, 29, 30, 31, 32, 33, 34, 35, 36, 37, 38, 39, 40, 41] (fun g => [(8, int g.k), (3, slv g.o g.rs.length g.c)]) (fun g => [ownV g.o g.c g.rs.reverse]) (fun g => g.k ≤ ps.length ∧ chainR g.rs (ps.drop g.k) = chainR [] ps ∧ (∀ q ∈ g.rs, q ∈ ps) ∧ g.rs.length ≤ g.k) (fun g => ps.length - g.k) (⟨0, [], none, 0⟩) ⟨rfl, rfl, trivial⟩ (fun w' hm => hm.addNil) (⟨Nat.zero_le _, rfl, fun q h => absurd h List.not_mem_nil, Nat.le_refl _⟩) (fun g F hok => ?_)
  obtain ⟨k, rs, o, cp⟩ := g
  obtain ⟨hk, hch, hrs, hrl⟩ := hok
  simp only at hk hch hrs hrl
  dsimp only
  refine HW.seq (HW.region [(0, .st)] rfl rfl ?_)
  refine Plan.cmp2 rfl rfl rfl rfl rfl (fun h9 => ?_) (fun h9 => ?_)
  · replace h9 := of_decide_eq_true h9
    have hlt : k < ps.length := by omega
    obtain ⟨ad, rfl, hl⟩ := hp k hlt
    obtain ⟨v, hv⟩ : ∃ v, v = ps[k] := ⟨_, rfl⟩
    rw [← hv] at hl
    have hvm : v ∈ ps := by rw [hv]; exact List.getElem_mem hlt
    have hdrop : ps.drop k = v :: ps.drop (k + 1) := by rw [hv]; exact List.drop_eq_getElem_cons hlt
    rw [hdrop] at hch
    refine Plan.done ?_
    refine HW.seq ?_
    refine HW.cond_true rfl ?_
    refine HW.skip ?_
    refine HW.seq ?_
    refine HW.block ?_
    refine HW.seq (HW.region [(0, .st), (1, .st), (2, .al), (3, .ef)] rfl rfl ?_)
    refine Plan.indexN k rfl rfl slV sizV rfl rfl rfl rfl hlt ?_
    refine Plan.loadAgg rfl rfl aggV sizV rfl (Sees.old hl (by simp)) rfl ?_
    refine Plan.alloc rfl zerV fun b5 => ?_
    refine Plan.storeA 0 rfl rfl hDn sizV rfl rfl rfl rfl rfl rfl ?_
    refine Plan.done ?_
    refine HW.seq ?_
    refine HW.block ?_
    refine HW.loopL (G := List Pt) [3, 12, 13, 14, 15, 16, 17, 18, 19, 20, 21, 22, 23, 24, 25, 26, 27, 28, 29, 30, 31, 32, 33, 34, 35, 36] (fun g => [(3, slv o g.length cp)]) (fun g => [Res.blk b5 #[int v.1, int v.2] 52, ownV o cp g.reverse]) (fun g => popR v g = popR v rs ∧ (∀ q ∈ g, q ∈ ps) ∧ g.length ≤ k) (fun g => g.length) (rs) ⟨rfl, trivial⟩ (Ent.refl _ _) (⟨rfl, hrs, hrl⟩) (fun g F hok => ?_)
    obtain ⟨hpop, hgs, hgl⟩ := hok
    refine HW.pure (p := 0 < g.length → ∃ b, o = some b ∧ g.length ≤ cp) (fun w' hm hpos => by
      have hh := hm.res _ (List.mem_cons_of_mem _ List.mem_cons_self)
      obtain ⟨b, hb⟩ := Res.own_some hh (by simpa using hpos)
      exact ⟨b, hb, by simpa using (Res.own_cap hh).1⟩) fun hsome => ?_
    refine HW.seq ?_
    refine HW.seq (HW.region_any [] [(0, .st), (1, .st), (2, .st), (3, .st), (4, .st), (5, .st), (6, .st), (7, .st), (8, .st), (9, .st), (10, .st), (11, .st), (12, .st), (13, .st), (14, .st), (15, .st), (16, .st), (17, .ef), (18, .st), (19, .st)] mix (by kernel_rfl) (fun _ _ _ _ _ h => h) (zeros rfl) ?_)
    refine Plan.move (v := .slice _ _ _) rfl rfl rfl ?_
    refine Plan.len rfl rfl slV rfl ?_
    refine Plan.cmp2 rfl rfl rfl rfl rfl (fun h14 => ?_) (fun h14 => ?_)
    · replace h14 := of_decide_eq_true h14
      obtain ⟨b, a, r, rfl⟩ : ∃ b a r, g = b :: a :: r := by
        match g, h14 with
        | b :: a :: r, _ => exact ⟨b, a, r, rfl⟩
        | [x], h => exact absurd h (by simp)
        | [], h => exact absurd h (by simp)
      obtain ⟨bb, rfl, hcap⟩ := hsome (by simp)
      have hae : (b :: a :: r).reverse = r.reverse ++ [a, b] := by simp
      have hA : ((b :: a :: r).reverse)[r.length]'(by simp) = a := by simp [hae]
      have hB : ((b :: a :: r).reverse)[r.length + 1]'(by simp) = b := by simp [hae]
      have hab := hbd a (hgs a (by simp))
      have hbb := hbd b (hgs b (by simp))
      have hvb := hbd v hvm
      have hgl2 : r.length + 2 ≤ k := by simpa using hgl
      refine Plan.move (v := .bool _) rfl rfl rfl ?_
      refine Plan.move (v := .slice _ _ _) rfl rfl rfl ?_
      refine Plan.move (v := .slice _ _ _) rfl rfl rfl ?_
      refine Plan.len rfl rfl slV rfl ?_
      refine Plan.arithI rfl rfl rfl rfl rfl (by omega) ?_
      refine Plan.indexN r.length rfl rfl slV sizV rfl rfl rfl (by simp only [List.length_cons]; omega) (by simp only [List.length_cons]; omega) ?_
      refine Plan.loadAgg rfl rfl aggV sizV rfl (by have := Sees.own (J := ⟨P, none, 43, w, []⟩) (L := [Res.blk b5 #[int v.1, int v.2] 52, ownV (some bb) cp (b :: a :: r).reverse]) 1 enc2 rfl bb rfl r.length (by simp); rw [hA] at this; exact this) rfl ?_
      refine Plan.move (v := .slice _ _ _) rfl rfl rfl ?_
      refine Plan.move (v := .slice _ _ _) rfl rfl rfl ?_
      refine Plan.len rfl rfl slV rfl ?_
      refine Plan.arithI rfl rfl rfl rfl rfl (by omega) ?_
      refine Plan.indexN (r.length + 1) rfl rfl slV sizV rfl rfl rfl (by simp only [List.length_cons]; omega) (by simp only [List.length_cons]; omega) ?_
      refine Plan.loadAgg rfl rfl aggV sizV rfl (by have := Sees.own (J := ⟨P, none, 43, w, []⟩) (L := [Res.blk b5 #[int v.1, int v.2] 52, ownV (some bb) cp (b :: a :: r).reverse]) 1 enc2 rfl bb rfl (r.length + 1) (by simp); rw [hB] at this; exact this) rfl ?_
      refine Plan.loadAll 0 rfl rfl aggV sizV rfl rfl rfl ?_
      refine Plan.callF [] 0 rfl rfl rfl (.inl rfl) (by simp) (fun w hm => turn_ct a.1 a.2 b.1 b.2 v.1 v.2 _ hab hbb hvb) ?_   -- tinplate/convex.turn
      rintro v Ln ⟨rfl, rfl⟩
      refine Plan.cmp2 rfl rfl rfl rfl rfl (fun h30 => ?_) (fun h30 => ?_)
      · replace h30 := of_decide_eq_true h30
        change trn a b v ≤ 0 at h30
        refine Plan.pick (v := .bool _) rfl rfl rfl rfl ?_
        refine Plan.done ?_
        refine HW.cond_true rfl ?_
        refine HW.skip ?_
        refine HW.block ?_
        refine HW.region [(0, .st), (1, .st), (2, .st), (3, .st), (4, .st), (5, .st)] rfl rfl ?_
        refine Plan.move (v := .slice _ _ _) rfl rfl rfl ?_
        refine Plan.move (v := .slice _ _ _) rfl rfl rfl ?_
        refine Plan.len rfl rfl slV rfl ?_
        refine Plan.arithI rfl rfl rfl rfl rfl (by omega) ?_
        refine Plan.sliceHi (a :: r).length rfl rfl slV sizV rfl rfl (by simp) (by simp at hcap ⊢; omega) ?_
        refine Plan.assign (v := .slice _ _ _) rfl rfl rfl ?_
        refine Plan.done ?_
        exact ⟨a :: r, by simp, ⟨by rw [← hpop]; conv => rhs; unfold popR; rw [if_pos h30], fun q hq => hgs q (List.mem_cons_of_mem _ hq), by simp at hgl ⊢; omega⟩, rfl, (fun w' hm => by
          have htk : (b :: a :: r).reverse.take (a :: r).length = (a :: r).reverse := by rw [List.reverse_cons (a := b)]; exact List.take_left' (by simp)
          have := Mem.swap (Rf := []) (r := ownV (some bb) cp (b :: a :: r).reverse) 1 (by rw [List.append_nil]; exact hm) rfl (ownV (some bb) cp (a :: r).reverse) (List.Sublist.refl _) (fun h => by have h2 := Res.own_take enc2 (a :: r).length (by simp) h; rw [htk] at h2; exact h2)
          rw [List.append_nil] at this
          exact this), (by repeat (first | exact Agree.havoc _ _ _ | refine Agree.updN ?_ | refine Agree.upd rfl ?_ | refine Agree.updL rfl ?_ | refine Agree.havoc2 rfl ?_)), ⟨rfl, trivial⟩⟩
      · replace h30 := of_decide_eq_false h30
        change ¬ trn a b v ≤ 0 at h30
        have hpg : popR v (b :: a :: r) = b :: a :: r := by unfold popR; rw [if_neg h30]
        refine Plan.pick (v := .bool _) rfl rfl rfl rfl ?_
        refine Plan.done ?_
        refine HW.cond_false rfl ?_
        refine HW.exit ?_
        refine HW.region [(0, .st), (1, .st), (2, .ef), (3, .ef), (4, .st)] rfl rfl ?_
        refine Plan.move (v := .slice _ _ _) rfl rfl rfl ?_
        refine Plan.loadAll 0 rfl rfl aggV sizV rfl rfl rfl ?_
        refine Plan.buildOwn (xs := [v]) (enc := enc) (sz := 2) rfl rfl rfl (bs1 v.1 v.2) rfl rfl (by simp) rfl fun b39 => ?_
        refine Plan.append (enc := enc) (sz := 2) (ys := [v]) 2 rfl rfl hDn slV infV rfl (by decide) enc2 enc1 rfl rfl (by simp) rfl rfl (Sees.ownAll 0 rfl b39 rfl) (by simp; omega) (by simp; omega) fun o' c' => ?_
        refine Plan.assign (v := .slice _ _ _) rfl rfl rfl ?_
        refine Plan.done ?_
        refine HW.region [(0, .st), (1, .st)] rfl rfl ?_
        refine Plan.arithI rfl rfl rfl rfl rfl (by omega) ?_
        refine Plan.move (v := .int _ _) rfl rfl rfl ?_
        refine Plan.done ?_
        exact ⟨⟨k + 1, v :: b :: a :: r, o', c'⟩, by simp only; omega, ⟨hlt, by rw [← hch, chainR, ← hpop, hpg], fun q hq => by rcases List.mem_cons.1 hq with rfl | hq; exact hvm; exact hgs q hq, by simp at hgl ⊢; omega⟩, rfl, (fun w' hm => by
          show Mem _ _ [ownV o' c' (_ :: _).reverse] w'
          rw [List.reverse_cons (a := v)]
          exact hm.sub (.cons _ (.cons _ (.refl _)))), (by repeat (first | exact Agree.havoc _ _ _ | refine Agree.updN ?_ | refine Agree.upd rfl ?_ | refine Agree.updL rfl ?_ | refine Agree.havoc2 rfl ?_)), ⟨rfl, slv_eq (by simp), trivial⟩⟩
    · replace h14 := of_decide_eq_false h14
      have hpg : popR v g = g := by
        match g, h14 with
        | _ :: _ :: _, h => exact absurd h (by simp; omega)
        | [x], _ => rfl
        | [], _ => rfl
      refine Plan.move (v := .bool _) rfl rfl rfl ?_
      refine Plan.no rfl rfl ?_
      refine Plan.no rfl rfl ?_
      refine Plan.no rfl rfl ?_
      refine Plan.no rfl rfl ?_
      refine Plan.no rfl rfl ?_
      refine Plan.no rfl rfl ?_
      refine Plan.no rfl rfl ?_
      refine Plan.no rfl rfl ?_
      refine Plan.no rfl rfl ?_
      refine Plan.no rfl rfl ?_
      refine Plan.no rfl rfl ?_
      refine Plan.no rfl rfl ?_
      refine Plan.no rfl rfl ?_
      refine Plan.noE rfl rfl ?_
      refine Plan.no rfl rfl ?_
      refine Plan.pick (v := .bool _) rfl rfl rfl rfl ?_
      refine Plan.done ?_
      refine HW.cond_false rfl ?_
      refine HW.exit ?_
      refine HW.region [(0, .st), (1, .st), (2, .ef), (3, .ef), (4, .st)] rfl rfl ?_
      refine Plan.move (v := .slice _ _ _) rfl rfl rfl ?_
      refine Plan.loadAll 0 rfl rfl aggV sizV rfl rfl rfl ?_
      refine Plan.buildOwn (xs := [v]) (enc := enc) (sz := 2) rfl rfl rfl (bs1 v.1 v.2) rfl rfl (by simp) rfl fun b39 => ?_
      refine Plan.append (enc := enc) (sz := 2) (ys := [v]) 2 rfl rfl hDn slV infV rfl (by decide) enc2 enc1 rfl rfl (by simp) rfl rfl (Sees.ownAll 0 rfl b39 rfl) (by simp; omega) (by simp; omega) fun o' c' => ?_
      refine Plan.assign (v := .slice _ _ _) rfl rfl rfl ?_
      refine Plan.done ?_
      refine HW.region [(0, .st), (1, .st)] rfl rfl ?_
      refine Plan.arithI rfl rfl rfl rfl rfl (by omega) ?_
      refine Plan.move (v := .int _ _) rfl rfl rfl ?_
      refine Plan.done ?_
      exact ⟨⟨k + 1, v :: g, o', c'⟩, by simp only; omega, ⟨hlt, by rw [← hch, chainR, ← hpop, hpg], fun q hq => by rcases List.mem_cons.1 hq with rfl | hq; exact hvm; exact hgs q hq, by simp at hgl ⊢; omega⟩, rfl, (fun w' hm => by
          show Mem _ _ [ownV o' c' (_ :: _).reverse] w'
          rw [List.reverse_cons (a := v)]
          exact hm.sub (.cons _ (.cons _ (.refl _)))), (by repeat (first | exact Agree.havoc _ _ _ | refine Agree.updN ?_ | refine Agree.upd rfl ?_ | refine Agree.updL rfl ?_ | refine Agree.havoc2 rfl ?_)), ⟨rfl, slv_eq (by simp), trivial⟩⟩
  · replace h9 := of_decide_eq_false h9
    have hend : rs = chainR [] ps := by rw [← hch, List.drop_of_length_le (by omega)]; rfl
    refine Plan.done ?_
    refine HW.seq ?_
    refine HW.cond_false rfl ?_
    refine HW.exit ?_
    refine HW.seq (HW.region [(0, .st), (1, .st)] rfl rfl ?_)
    refine Plan.move (v := .slice _ _ _) rfl rfl rfl ?_
    refine Plan.assign (v := .slice _ _ _) rfl rfl rfl ?_
    refine Plan.done ?_
    exact HW.ret ⟨rfl, [slv o rs.length cp], [ownV o cp rs.reverse], .tmp rfl .nil, .refl _, o, cp, by rw [← hend]; rfl, by rw [← hend]⟩

end Go.Proofs.Ytjmklbkcpjmcaaa.V
