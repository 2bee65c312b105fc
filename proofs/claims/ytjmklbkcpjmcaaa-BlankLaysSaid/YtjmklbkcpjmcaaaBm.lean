/-
  Package tinplateref04: asks, Admissible, nearer, Witness; BlankGrids, its contract.
-/
import Derived.Test.YtjmklbkcpjmcaaaBl
import Derived.Test.YtjmklbkcpjmcaaaBa
namespace Go.Proofs.Ytjmklbkcpjmcaaa.V
open Go Go.RowKit Go.Proofs.Ytjmklbkcpjmcaaa.H Go.Proofs.Ytjmklbkcpjmcaaa.LL
set_option linter.unusedVariables false
set_option linter.unusedSimpArgs false

theorem asksR_ct (A : Option Addr) (p : List Pt) (n c : Nat) (a b d : Int) (w : World) (hp : Rd enc 2 w A p) (hn : n = p.length) (hlen : p.length ≤ 1000000) :
    Ct P 57 #[.slice A n c, gdv a b d] w [] (fun r L => r = int (if (blankF p && goodG (a, b, d)) = true then 0 else 2) ∧ L = []) := by
  subst hn
  have ht : ∀ {x : Int}, x = (if (blankF p && goodG (a, b, d)) = true then 0 else 2) → (int x = int (if (blankF p && goodG (a, b, d)) = true then 0 else 2)) := fun h => by rw [h]
  refine Ct.of_body (rs := [.tmp 4]) (N := 13) (L := []) Try.func57 rfl rfl rfl (by kernel_rfl) rfl (Mem.refl w) ?_
  refine HW.seq (HW.region [(0, .ef), (1, .st)] rfl rfl ?_)
  refine Plan.boxA rfl rfl rfl fun b3 => ?_
  refine Plan.assign (v := .int _ _) rfl rfl rfl ?_
  refine Plan.done ?_
  refine HW.seq ?_
  refine HW.seq (HW.region [(0, .st), (1, .ef), (2, .st), (3, .st), (4, .st), (5, .ef), (6, .st), (7, .st)] rfl rfl ?_)
  refine Plan.move (v := .slice _ _ _) rfl rfl rfl ?_
  refine Plan.callF [] 0 rfl rfl rfl (.inl rfl) (by simp) (fun w hm => blankR_ct A p _ c w (hp.mem hm) rfl hlen) ?_   -- tinplate/tinplateref04.Blank
  rintro v Ln ⟨rfl, rfl⟩
  refine Plan.splitB (fun h6 => ?_) (fun h6 => ?_)
  · skip
    refine Plan.not rfl rfl rfl ?_
    refine Plan.move (v := .bool _) rfl rfl rfl ?_
    refine Plan.loadAll 0 rfl rfl aggGrid sizGrid rfl rfl rfl ?_
    refine Plan.callF [] 0 rfl rfl rfl (.inl rfl) (by simp) (fun w hm => goodR_ct a b d w) ?_   -- tinplate/tinplateref04.Good
    rintro v Ln ⟨rfl, rfl⟩
    refine Plan.splitB (fun h10 => ?_) (fun h10 => ?_)
    · skip
      refine Plan.not rfl rfl rfl ?_
      refine Plan.pick (v := .bool _) rfl rfl rfl rfl ?_
      refine Plan.done ?_
      refine HW.cond_false rfl ?_
      refine HW.skip ?_
      refine HW.seq (HW.region [(0, .st)] rfl rfl ?_)
      refine Plan.assign (v := .int _ _) rfl rfl rfl ?_
      refine Plan.done ?_
      exact HW.ret ⟨rfl, _, [], .tmp rfl .nil, List.nil_sublist _, ht (by rw [h6, h10]; rfl), rfl⟩
    · skip
      refine Plan.not rfl rfl rfl ?_
      refine Plan.pick (v := .bool _) rfl rfl rfl rfl ?_
      refine Plan.done ?_
      refine HW.cond_true rfl ?_
      refine HW.seq (HW.region [(0, .st)] rfl rfl ?_)
      refine Plan.assign (v := .int _ _) rfl rfl rfl ?_
      refine Plan.done ?_
      exact HW.ret ⟨rfl, _, [], .tmp rfl .nil, List.nil_sublist _, ht (by rw [h6, h10]; rfl), rfl⟩
  · skip
    refine Plan.not rfl rfl rfl ?_
    refine Plan.move (v := .bool _) rfl rfl rfl ?_
    refine Plan.no rfl rfl ?_
    refine Plan.noE rfl rfl ?_
    refine Plan.no rfl rfl ?_
    refine Plan.pick (v := .bool _) rfl rfl rfl rfl ?_
    refine Plan.done ?_
    refine HW.cond_true rfl ?_
    refine HW.seq (HW.region [(0, .st)] rfl rfl ?_)
    refine Plan.assign (v := .int _ _) rfl rfl rfl ?_
    refine Plan.done ?_
    exact HW.ret ⟨rfl, _, [], .tmp rfl .nil, List.nil_sublist _, ht (by rw [h6]; rfl), rfl⟩

theorem AdmissibleR_ok (A : Option Addr) (p : List Pt) (n c : Nat) (a b d : Int) (w : World) (hp : Rd enc 2 w A p) (hn : n = p.length) (hlen : p.length ≤ 1000000) (hb : blankF p = true) (hg : goodG (a, b, d) = true) :
    Ct P 29 #[.slice A n c, gdv a b d] w [] (fun r L => r = .tuple #[.bool (admB p (a, b, d)), int 0] ∧ L = []) := by
  subst hn
  have hc0 : (blankF p && goodG (a, b, d)) = true := by rw [hb, hg]; rfl
  have hs : ∀ w, Rd enc 2 w A p → Ct P 57 #[.slice A p.length c, gdv a b d] w [] (fun r L => r = int 0 ∧ L = []) := fun w h => by
    have := asksR_ct A p p.length c a b d w h rfl hlen
    simp only [if_pos hc0] at this
    exact this
  refine Ct.of_body (rs := [.tmp 4, .tmp 5]) (N := 17) (L := []) Try.func29 rfl rfl rfl (by kernel_rfl) rfl (Mem.refl w) ?_
  refine HW.seq (HW.region [(0, .ef), (1, .st), (2, .st)] rfl rfl ?_)
  refine Plan.boxA rfl rfl rfl fun b3 => ?_
  refine Plan.assign (v := .bool _) rfl rfl rfl ?_
  refine Plan.assign (v := .int _ _) rfl rfl rfl ?_
  refine Plan.done ?_
  refine HW.seq (HW.region [(0, .st), (1, .st), (2, .ef), (3, .st)] rfl rfl ?_)
  refine Plan.move (v := .slice _ _ _) rfl rfl rfl ?_
  refine Plan.loadAll 0 rfl rfl aggGrid sizGrid rfl rfl rfl ?_
  refine Plan.callF [] 0 rfl rfl rfl (.inl rfl) (by simp) (fun w hm => hs w (hp.mem hm)) ?_   -- tinplate/tinplateref04.asks
  rintro v Ln ⟨rfl, rfl⟩
  refine Plan.assign (v := .int _ _) rfl rfl rfl ?_
  refine Plan.done ?_
  refine HW.seq ?_
  refine HW.seq (HW.region [(0, .st), (1, .st)] rfl rfl ?_)
  refine Plan.move (v := .int _ _) rfl rfl rfl ?_
  refine Plan.cmp2 rfl rfl rfl rfl rfl (fun h11 => ?_) (fun h11 => ?_)
  · replace h11 := ne_of_t h11
    exact absurd rfl h11
  · replace h11 := eq_of_f h11
    refine Plan.done ?_
    refine HW.cond_false rfl ?_
    refine HW.skip ?_
    refine HW.seq (HW.region_any [] [(0, .st), (2, .st), (1, .ef), (3, .ef), (4, .st), (5, .st)] mix (by kernel_rfl) (fun _ _ _ _ _ h => h) (zeros rfl) ?_)
    refine Plan.move (v := .slice _ _ _) rfl rfl rfl ?_
    refine Plan.loadAll 0 rfl rfl aggGrid sizGrid rfl rfl rfl ?_
    refine Plan.callF [] 0 rfl rfl rfl (.inl rfl) (by simp) (fun w hm => crossing_ct A p _ c w (hp.mem hm) rfl hb) ?_   -- tinplate/tinplateref04.crossing
    rintro v Ln ⟨o, c1, rfl, rfl⟩
    refine Plan.callF [] 0 rfl rfl rfl (.inl rfl) (by simp) (fun w hm => free_ct (at0 o) (hits p) a b d _ c1 w (Res.own_rd enc2 (hm.res (ownV o c1 (hits p)) (by simp))) rfl (Nat.le_trans (hits_len p 625) (by decide)) hg (fun v hv => ⟨(hits_bd hv).1.mono (by omega), (hits_bd hv).2.mono (by omega)⟩)) ?_   -- tinplate/tinplateref04.free
    rintro v Ln ⟨rfl, rfl⟩
    refine Plan.splitB (fun h16 => ?_) (fun h16 => ?_)
    · skip
      refine Plan.assign (v := .bool _) rfl rfl rfl ?_
      refine Plan.assign (v := .int _ _) rfl rfl rfl ?_
      refine Plan.done ?_
      exact HW.ret ⟨rfl, _, [], .tmp rfl (.tmp rfl .nil), List.nil_sublist _, (by rw [admB, h16]; rfl), rfl⟩
    · skip
      refine Plan.assign (v := .bool _) rfl rfl rfl ?_
      refine Plan.assign (v := .int _ _) rfl rfl rfl ?_
      refine Plan.done ?_
      exact HW.ret ⟨rfl, _, [], .tmp rfl (.tmp rfl .nil), List.nil_sublist _, (by rw [admB, h16]; rfl), rfl⟩

theorem AdmissibleR_no (A : Option Addr) (p : List Pt) (n c : Nat) (a b d : Int) (w : World) (hp : Rd enc 2 w A p) (hn : n = p.length) (hlen : p.length ≤ 1000000) (hb : (blankF p && goodG (a, b, d)) = false) :
    Ct P 29 #[.slice A n c, gdv a b d] w [] (fun r L => r = .tuple #[.bool false, int 2] ∧ L = []) := by
  subst hn
  have hs : ∀ w, Rd enc 2 w A p → Ct P 57 #[.slice A p.length c, gdv a b d] w [] (fun r L => r = int 2 ∧ L = []) := fun w h => by
    have := asksR_ct A p p.length c a b d w h rfl hlen
    simp only [if_neg (show ¬ (blankF p && goodG (a, b, d)) = true by rw [hb]; decide)] at this
    exact this
  refine Ct.of_body (rs := [.tmp 4, .tmp 5]) (N := 17) (L := []) Try.func29 rfl rfl rfl (by kernel_rfl) rfl (Mem.refl w) ?_
  refine HW.seq (HW.region [(0, .ef), (1, .st), (2, .st)] rfl rfl ?_)
  refine Plan.boxA rfl rfl rfl fun b3 => ?_
  refine Plan.assign (v := .bool _) rfl rfl rfl ?_
  refine Plan.assign (v := .int _ _) rfl rfl rfl ?_
  refine Plan.done ?_
  refine HW.seq (HW.region [(0, .st), (1, .st), (2, .ef), (3, .st)] rfl rfl ?_)
  refine Plan.move (v := .slice _ _ _) rfl rfl rfl ?_
  refine Plan.loadAll 0 rfl rfl aggGrid sizGrid rfl rfl rfl ?_
  refine Plan.callF [] 0 rfl rfl rfl (.inl rfl) (by simp) (fun w hm => hs w (hp.mem hm)) ?_   -- tinplate/tinplateref04.asks
  rintro v Ln ⟨rfl, rfl⟩
  refine Plan.assign (v := .int _ _) rfl rfl rfl ?_
  refine Plan.done ?_
  refine HW.seq ?_
  refine HW.seq (HW.region [(0, .st), (1, .st)] rfl rfl ?_)
  refine Plan.move (v := .int _ _) rfl rfl rfl ?_
  refine Plan.cmp2 rfl rfl rfl rfl rfl (fun h11 => ?_) (fun h11 => ?_)
  · replace h11 := ne_of_t h11
    refine Plan.done ?_
    refine HW.cond_true rfl ?_
    refine HW.seq (HW.region [(0, .st), (1, .st), (2, .st)] rfl rfl ?_)
    refine Plan.move (v := .int _ _) rfl rfl rfl ?_
    refine Plan.assign (v := .bool _) rfl rfl rfl ?_
    refine Plan.assign (v := .int _ _) rfl rfl rfl ?_
    refine Plan.done ?_
    exact HW.ret ⟨rfl, _, [], .tmp rfl (.tmp rfl .nil), List.nil_sublist _, rfl, rfl⟩
  · replace h11 := eq_of_f h11
    exact absurd h11 (by decide)

theorem nearer_ct (a b : Pt) (w : World) (ha : Bd 12 a.1 ∧ Bd 12 a.2) (hb : Bd 12 b.1 ∧ Bd 12 b.2) : Ct P 63 #[vc a, vc b] w [] (fun r L => r = .bool (near a b) ∧ L = []) := by
  have q1 := nn_bd ha
  have q2 := nn_bd hb
  have ht : ∀ {x : Bool}, x = decide (a.1 * a.1 + a.2 * a.2 < b.1 * b.1 + b.2 * b.2 ∨ (a.1 * a.1 + a.2 * a.2 = b.1 * b.1 + b.2 * b.2 ∧ (b.1 < a.1 ∨ (a.1 = b.1 ∧ b.2 < a.2)))) → (Value.bool x = .bool (near a b)) := fun h => by rw [h]; rfl
  refine Ct.of_body (rs := [.tmp 4]) (N := 54) (L := []) Try.func63 rfl rfl rfl (by kernel_rfl) rfl (Mem.refl w) ?_
  refine HW.seq (HW.region [(0, .ef), (1, .ef), (2, .st)] rfl rfl ?_)
  refine Plan.boxA rfl rfl rfl fun b2 => ?_
  refine Plan.boxA rfl rfl rfl fun b3 => ?_
  refine Plan.assign (v := .bool _) rfl rfl rfl ?_
  refine Plan.done ?_
  refine HW.seq (HW.region_any [] [(0, .st), (1, .st), (2, .st), (3, .st), (4, .st), (5, .st), (6, .st), (7, .st), (8, .st), (9, .st), (10, .st), (11, .st), (12, .st), (13, .st), (14, .st), (15, .st), (16, .st), (17, .st), (18, .st), (19, .st), (20, .st), (21, .st), (22, .st), (23, .st)] mix (by kernel_rfl) (fun _ _ _ _ _ h => h) (zeros rfl) ?_)
  refine Plan.fieldAddr rfl rfl fldV0 rfl ?_
  refine Plan.load (v := .int _ _) rfl rfl aggI rfl (Sees.one 1 rfl rfl) ?_
  refine Plan.fieldAddr rfl rfl fldV0 rfl ?_
  refine Plan.load (v := .int _ _) rfl rfl aggI rfl (Sees.one 1 rfl rfl) ?_
  refine Plan.arithI rfl rfl rfl rfl rfl (by omega) ?_
  refine Plan.fieldAddr rfl rfl fldV1 rfl ?_
  refine Plan.load (v := .int _ _) rfl rfl aggI rfl (Sees.one 1 rfl rfl) ?_
  refine Plan.fieldAddr rfl rfl fldV1 rfl ?_
  refine Plan.load (v := .int _ _) rfl rfl aggI rfl (Sees.one 1 rfl rfl) ?_
  refine Plan.arithI rfl rfl rfl rfl rfl (by omega) ?_
  refine Plan.arithI rfl rfl rfl rfl rfl (by omega) ?_
  refine Plan.fieldAddr rfl rfl fldV0 rfl ?_
  refine Plan.load (v := .int _ _) rfl rfl aggI rfl (Sees.one 0 rfl rfl) ?_
  refine Plan.fieldAddr rfl rfl fldV0 rfl ?_
  refine Plan.load (v := .int _ _) rfl rfl aggI rfl (Sees.one 0 rfl rfl) ?_
  refine Plan.arithI rfl rfl rfl rfl rfl (by omega) ?_
  refine Plan.fieldAddr rfl rfl fldV1 rfl ?_
  refine Plan.load (v := .int _ _) rfl rfl aggI rfl (Sees.one 0 rfl rfl) ?_
  refine Plan.fieldAddr rfl rfl fldV1 rfl ?_
  refine Plan.load (v := .int _ _) rfl rfl aggI rfl (Sees.one 0 rfl rfl) ?_
  refine Plan.arithI rfl rfl rfl rfl rfl (by omega) ?_
  refine Plan.arithI rfl rfl rfl rfl rfl (by omega) ?_
  refine Plan.assign (v := .int _ _) rfl rfl rfl ?_
  refine Plan.assign (v := .int _ _) rfl rfl rfl ?_
  refine Plan.done ?_
  refine HW.seq ?_
  refine HW.seq (HW.region [(0, .st), (1, .st), (2, .st)] rfl rfl ?_)
  refine Plan.move (v := .int _ _) rfl rfl rfl ?_
  refine Plan.move (v := .int _ _) rfl rfl rfl ?_
  refine Plan.cmp2 rfl rfl rfl rfl rfl (fun h31 => ?_) (fun h31 => ?_)
  · replace h31 := ne_of_t h31
    refine Plan.done ?_
    refine HW.cond_true rfl ?_
    refine HW.seq (HW.region [(0, .st), (1, .st), (2, .st), (3, .st)] rfl rfl ?_)
    refine Plan.move (v := .int _ _) rfl rfl rfl ?_
    refine Plan.move (v := .int _ _) rfl rfl rfl ?_
    refine Plan.cmp2 rfl rfl rfl rfl rfl (fun h34 => ?_) (fun h34 => ?_)
    · replace h34 := of_decide_eq_true h34
      refine Plan.assign (v := .bool _) rfl rfl rfl ?_
      refine Plan.done ?_
      exact HW.ret ⟨rfl, _, [], .tmp rfl .nil, List.nil_sublist _, ht (decide_eq_true (by omega)).symm, rfl⟩
    · replace h34 := of_decide_eq_false h34
      refine Plan.assign (v := .bool _) rfl rfl rfl ?_
      refine Plan.done ?_
      exact HW.ret ⟨rfl, _, [], .tmp rfl .nil, List.nil_sublist _, ht (decide_eq_false (by omega)).symm, rfl⟩
  · replace h31 := eq_of_f h31
    refine Plan.done ?_
    refine HW.cond_false rfl ?_
    refine HW.skip ?_
    refine HW.seq (HW.region [(0, .st), (1, .st), (2, .st), (3, .st), (4, .st), (5, .st), (6, .st), (7, .st), (8, .st), (9, .st), (10, .st), (11, .st), (12, .st), (13, .st), (14, .st), (15, .st), (16, .st), (17, .st), (18, .st), (19, .st)] rfl rfl ?_)
    refine Plan.fieldAddr rfl rfl fldV0 rfl ?_
    refine Plan.load (v := .int _ _) rfl rfl aggI rfl (Sees.one 1 rfl rfl) ?_
    refine Plan.fieldAddr rfl rfl fldV0 rfl ?_
    refine Plan.load (v := .int _ _) rfl rfl aggI rfl (Sees.one 0 rfl rfl) ?_
    refine Plan.cmp2 rfl rfl rfl rfl rfl (fun h39 => ?_) (fun h39 => ?_)
    · replace h39 := of_decide_eq_true h39
      refine Plan.move (v := .bool _) rfl rfl rfl ?_
      refine Plan.no rfl rfl ?_
      refine Plan.no rfl rfl ?_
      refine Plan.no rfl rfl ?_
      refine Plan.no rfl rfl ?_
      refine Plan.no rfl rfl ?_
      refine Plan.no rfl rfl ?_
      refine Plan.no rfl rfl ?_
      refine Plan.no rfl rfl ?_
      refine Plan.no rfl rfl ?_
      refine Plan.no rfl rfl ?_
      refine Plan.no rfl rfl ?_
      refine Plan.no rfl rfl ?_
      refine Plan.pick (v := .bool _) rfl rfl rfl rfl ?_
      refine Plan.assign (v := .bool _) rfl rfl rfl ?_
      refine Plan.done ?_
      exact HW.ret ⟨rfl, _, [], .tmp rfl .nil, List.nil_sublist _, ht (decide_eq_true (by omega)).symm, rfl⟩
    · replace h39 := of_decide_eq_false h39
      refine Plan.move (v := .bool _) rfl rfl rfl ?_
      refine Plan.fieldAddr rfl rfl fldV0 rfl ?_
      refine Plan.load (v := .int _ _) rfl rfl aggI rfl (Sees.one 1 rfl rfl) ?_
      refine Plan.fieldAddr rfl rfl fldV0 rfl ?_
      refine Plan.load (v := .int _ _) rfl rfl aggI rfl (Sees.one 0 rfl rfl) ?_
      refine Plan.cmp2 rfl rfl rfl rfl rfl (fun h45 => ?_) (fun h45 => ?_)
      · replace h45 := of_decide_eq_true h45
        refine Plan.move (v := .bool _) rfl rfl rfl ?_
        refine Plan.fieldAddr rfl rfl fldV1 rfl ?_
        refine Plan.load (v := .int _ _) rfl rfl aggI rfl (Sees.one 1 rfl rfl) ?_
        refine Plan.fieldAddr rfl rfl fldV1 rfl ?_
        refine Plan.load (v := .int _ _) rfl rfl aggI rfl (Sees.one 0 rfl rfl) ?_
        refine Plan.cmp2 rfl rfl rfl rfl rfl (fun h51 => ?_) (fun h51 => ?_)
        · replace h51 := of_decide_eq_true h51
          refine Plan.pick (v := .bool _) rfl rfl rfl rfl ?_
          refine Plan.pick (v := .bool _) rfl rfl rfl rfl ?_
          refine Plan.assign (v := .bool _) rfl rfl rfl ?_
          refine Plan.done ?_
          exact HW.ret ⟨rfl, _, [], .tmp rfl .nil, List.nil_sublist _, ht (decide_eq_true (by omega)).symm, rfl⟩
        · replace h51 := of_decide_eq_false h51
          refine Plan.pick (v := .bool _) rfl rfl rfl rfl ?_
          refine Plan.pick (v := .bool _) rfl rfl rfl rfl ?_
          refine Plan.assign (v := .bool _) rfl rfl rfl ?_
          refine Plan.done ?_
          exact HW.ret ⟨rfl, _, [], .tmp rfl .nil, List.nil_sublist _, ht (decide_eq_false (by omega)).symm, rfl⟩
      · replace h45 := of_decide_eq_false h45
        refine Plan.move (v := .bool _) rfl rfl rfl ?_
        refine Plan.no rfl rfl ?_
        refine Plan.no rfl rfl ?_
        refine Plan.no rfl rfl ?_
        refine Plan.no rfl rfl ?_
        refine Plan.no rfl rfl ?_
        refine Plan.pick (v := .bool _) rfl rfl rfl rfl ?_
        refine Plan.pick (v := .bool _) rfl rfl rfl rfl ?_
        refine Plan.assign (v := .bool _) rfl rfl rfl ?_
        refine Plan.done ?_
        exact HW.ret ⟨rfl, _, [], .tmp rfl .nil, List.nil_sublist _, ht (decide_eq_false (by omega)).symm, rfl⟩

/-- the best so far -/
def BestO (g : Gd) (l : List Pt) (m : Pt) : Prop := (m = (0, 0) ∧ ∀ u ∈ l, hasG g u = false) ∨ (m ≠ (0, 0) ∧ (m ∈ l ∧ hasG g m = true) ∧ ∀ u ∈ l, hasG g u = true → u = m ∨ near m u = true)

theorem hits_ne {p : List Pt} {v : Pt} (h : v ∈ hits p) : v ≠ (0, 0) := by
  simp only [hitsN, List.mem_filter, hitB, Bool.and_eq_true, decide_eq_true_eq] at h
  exact h.2.2

theorem take_succ_mem {l : List Pt} {k : Nat} (hk : k < l.length) {u : Pt} (hu : u ∈ l.take (k + 1)) : u ∈ l.take k ∨ u = l[k] := by
  rw [List.take_add_one, List.getElem?_eq_getElem hk] at hu
  rcases List.mem_append.1 hu with h | h
  · exact .inl h
  · exact .inr (by simpa using h)
theorem mem_take_succ {l : List Pt} {k : Nat} (hk : k < l.length) {u : Pt} (hu : u ∈ l.take k ∨ u = l[k]) : u ∈ l.take (k + 1) := by
  rw [List.take_add_one, List.getElem?_eq_getElem hk]
  rcases hu with h | rfl
  · exact List.mem_append_left _ h
  · exact List.mem_append_right _ (by simp)
theorem BestO.no {g : Gd} {l : List Pt} {m : Pt} {k : Nat} (h : BestO g (l.take k) m) (hk : k < l.length) (hx : hasG g l[k] = false) : BestO g (l.take (k + 1)) m := by
  rcases h with ⟨h0, h⟩ | ⟨h0, ⟨h1, h2⟩, h⟩
  · refine .inl ⟨h0, fun u hu => ?_⟩
    rcases take_succ_mem hk hu with hu | rfl
    · exact h u hu
    · exact hx
  · refine .inr ⟨h0, ⟨mem_take_succ hk (.inl h1), h2⟩, fun u hu hgu => ?_⟩
    rcases take_succ_mem hk hu with hu | rfl
    · exact h u hu hgu
    · rw [hx] at hgu; cases hgu
theorem BestO.new {g : Gd} {l : List Pt} {m : Pt} {k : Nat} (h : BestO g (l.take k) m) (hk : k < l.length) (hx : hasG g l[k] = true) (hne : l[k] ≠ (0, 0)) (hn : m = (0, 0) ∨ near l[k] m = true) : BestO g (l.take (k + 1)) l[k] := by
  refine .inr ⟨hne, ⟨mem_take_succ hk (.inr rfl), hx⟩, fun u hu hgu => ?_⟩
  rcases take_succ_mem hk hu with hu | rfl
  · rcases h with ⟨h0, h⟩ | ⟨h0, ⟨h1, h2⟩, h⟩
    · rw [h u hu] at hgu; cases hgu
    · rcases hn with hn | hn
      · exact absurd hn h0
      · rcases h u hu hgu with rfl | h3
        · exact .inr hn
        · exact .inr (near_trans hn h3)
  · exact .inl rfl
theorem BestO.keep {g : Gd} {l : List Pt} {m : Pt} {k : Nat} (h : BestO g (l.take k) m) (hk : k < l.length) (hm : m ≠ (0, 0)) (hn : near l[k] m = false) : BestO g (l.take (k + 1)) m := by
  rcases h with ⟨h0, h⟩ | ⟨h0, ⟨h1, h2⟩, h⟩
  · exact absurd h0 hm
  · refine .inr ⟨h0, ⟨mem_take_succ hk (.inl h1), h2⟩, fun u hu hgu => ?_⟩
    rcases take_succ_mem hk hu with hu | rfl
    · exact h u hu hgu
    · exact near_tri hn

set_option maxRecDepth 100000 in
set_option maxHeartbeats 1000000 in
theorem WitnessR_ok (A : Option Addr) (p : List Pt) (n c : Nat) (a b d : Int) (w : World) (hp : Rd enc 2 w A p) (hn : n = p.length) (hlen : p.length ≤ 1000000) (hb : blankF p = true) (hg : goodG (a, b, d) = true) :
    Ct P 31 #[.slice A n c, gdv a b d] w [] (fun r L => ∃ v e, WitR p (a, b, d) v e ∧ r = .tuple #[vc v, int e] ∧ L = []) := by
  subst hn
  have hc0 : (blankF p && goodG (a, b, d)) = true := by rw [hb, hg]; rfl
  have hs : ∀ w, Rd enc 2 w A p → Ct P 57 #[.slice A p.length c, gdv a b d] w [] (fun r L => r = int 0 ∧ L = []) := fun w h => by
    have := asksR_ct A p p.length c a b d w h rfl hlen
    simp only [if_pos hc0] at this
    exact this
  have hl625 : (hits p).length ≤ 625 := hits_len p 625
  refine Ct.of_body (rs := [.cell 4 52, .tmp 5]) (N := 54) (L := []) Try.func31 rfl rfl rfl (by kernel_rfl) rfl (Mem.refl w) ?_
  refine HW.seq (HW.region [(0, .ef), (1, .al), (2, .st)] rfl rfl ?_)
  refine Plan.boxA rfl rfl rfl fun b3 => ?_
  refine Plan.alloc rfl zerV fun b4 => ?_
  refine Plan.assign (v := .int _ _) rfl rfl rfl ?_
  refine Plan.done ?_
  refine HW.seq (HW.region [(0, .st), (1, .st), (2, .ef), (3, .st)] rfl rfl ?_)
  refine Plan.move (v := .slice _ _ _) rfl rfl rfl ?_
  refine Plan.loadAll 1 rfl rfl aggGrid sizGrid rfl rfl rfl ?_
  refine Plan.callF [] 0 rfl rfl rfl (.inl rfl) (by simp) (fun w hm => hs w (hp.mem hm)) ?_   -- tinplate/tinplateref04.asks
  rintro v Ln ⟨rfl, rfl⟩
  refine Plan.assign (v := .int _ _) rfl rfl rfl ?_
  refine Plan.done ?_
  refine HW.seq ?_
  refine HW.seq (HW.region [(0, .st), (1, .st)] rfl rfl ?_)
  refine Plan.move (v := .int _ _) rfl rfl rfl ?_
  refine Plan.cmp2 rfl rfl rfl rfl rfl (fun h14 => ?_) (fun h14 => ?_)
  · replace h14 := ne_of_t h14
    exact absurd rfl h14
  · replace h14 := eq_of_f h14
    refine Plan.done ?_
    refine HW.cond_false rfl ?_
    refine HW.skip ?_
    refine HW.seq (HW.region [(0, .st), (1, .al), (2, .ef)] rfl rfl ?_)
    refine Plan.build rfl rfl rfl (bld0) ?_
    refine Plan.alloc rfl zerV fun b7 => ?_
    refine Plan.storeA 0 rfl rfl hDn sizV rfl rfl rfl rfl rfl rfl ?_
    refine Plan.done ?_
    refine HW.seq (HW.region [(0, .st), (1, .ef), (2, .st)] rfl rfl ?_)
    refine Plan.move (v := .slice _ _ _) rfl rfl rfl ?_
    refine Plan.callF [] 0 rfl rfl rfl (.inl rfl) (by simp) (fun w hm => crossing_ct A p _ c w (hp.mem hm) rfl hb) ?_   -- tinplate/tinplateref04.crossing
    rintro v Ln ⟨o, c1, rfl, rfl⟩
    refine Plan.assign (v := .slice _ _ _) rfl rfl rfl ?_
    refine Plan.done ?_
    refine HW.seq ?_
    refine HW.seq (HW.region [(0, .st)] rfl rfl ?_)
    refine Plan.assign (v := .int _ _) rfl rfl rfl ?_
    refine Plan.done ?_
    refine HW.block ?_
    refine HW.loopL (G := MnG) [9, 20, 21, 22, 23, 24, 25, 26, 27, 28, 29, 30, 31, 32, 33, 34, 35, 36, 37, 38, 39, 40, 41, 42, 43, 44, 45, 46, 47, 48] (fun g => [(9, int g.k)]) (fun g => [ownV o c1 (hits p), Res.blk b7 #[int g.m.1, int g.m.2] 52, Res.blk b4 #[int 0, int 0] 52, Res.blk b3 #[int a, int b, int d] 26]) (fun g => g.k ≤ (hits p).length ∧ BestO (a, b, d) ((hits p).take g.k) g.m) (fun g => (hits p).length - g.k) (⟨0, (0, 0)⟩) ⟨rfl, trivial⟩ (fun w' hm => hm) (⟨Nat.zero_le _, .inl ⟨rfl, fun u hu => by simp at hu⟩⟩) (fun g F hok => ?_)
    obtain ⟨k, mm⟩ := g
    obtain ⟨hk, hbo⟩ := hok
    dsimp only at hk hbo
    dsimp only
    refine HW.seq ?_
    refine HW.seq (HW.region [(0, .st), (1, .st), (2, .st), (3, .st)] rfl rfl ?_)
    refine Plan.move (v := .int _ _) rfl rfl rfl ?_
    refine Plan.move (v := .slice _ _ _) rfl rfl rfl ?_
    refine Plan.len rfl rfl slV rfl ?_
    refine Plan.cmp2 rfl rfl rfl rfl rfl (fun h23 => ?_) (fun h23 => ?_)
    · replace h23 := of_decide_eq_true h23
      have hlt : k < (hits p).length := by omega
      obtain ⟨xk, hxk⟩ : ∃ xk, (hits p)[k] = xk := ⟨_, rfl⟩
      have hmem : xk ∈ hits p := by rw [← hxk]; exact List.getElem_mem hlt
      have hbd := hits_bd hmem
      have hne := hits_ne hmem
      refine Plan.done ?_
      refine HW.cond_true rfl ?_
      refine HW.skip ?_
      refine HW.seq ?_
      refine HW.block ?_
      refine HW.pure (p := ∃ b, o = some b) (fun w' hm => Res.own_some (hm.res _ List.mem_cons_self) (by omega)) fun hob => ?_
      obtain ⟨bo, rfl⟩ := hob
      refine HW.seq (HW.region_any [] [(0, .st), (1, .st), (2, .st), (3, .st), (4, .st), (5, .ef), (6, .st), (7, .st), (8, .st), (9, .st), (10, .st), (11, .st), (12, .st), (13, .st), (14, .st), (15, .st), (16, .ef), (17, .st), (18, .st)] mix (by kernel_rfl) (fun _ _ _ _ _ h => h) (zeros rfl) ?_)
      refine Plan.loadAll 3 rfl rfl aggGrid sizGrid rfl rfl rfl ?_
      refine Plan.move (v := .slice _ _ _) rfl rfl rfl ?_
      refine Plan.move (v := .int _ _) rfl rfl rfl ?_
      refine Plan.indexN (k) rfl rfl slV sizV rfl rfl rfl rfl (hlt) ?_
      refine Plan.loadAgg rfl rfl aggV sizV rfl (Sees.ownV 0 enc2 rfl bo rfl k hlt hxk) rfl ?_
      refine Plan.callF [] 0 rfl rfl rfl (.inl rfl) (by simp) (fun w hm => inR_ct a b d _ _ w hg (hbd.1.mono (by omega)) (hbd.2.mono (by omega))) ?_   -- tinplate/tinplateref04.In
      rintro v Ln ⟨rfl, rfl⟩
      refine Plan.splitB (fun h31 => ?_) (fun h31 => ?_)
      · skip
        refine Plan.move (v := .bool _) rfl rfl rfl ?_
        refine Plan.loadAll 1 rfl rfl aggV sizV rfl rfl rfl ?_
        refine Plan.build rfl rfl rfl (bld0) ?_
        refine Plan.eqV mm ((0, 0)) rfl rfl rfl rfl rfl (fun h35 => ?_) (fun h35 => ?_)
        · skip
          refine Plan.move (v := .bool _) rfl rfl rfl ?_
          refine Plan.no rfl rfl ?_
          refine Plan.no rfl rfl ?_
          refine Plan.no rfl rfl ?_
          refine Plan.no rfl rfl ?_
          refine Plan.no rfl rfl ?_
          refine Plan.noE rfl rfl ?_
          refine Plan.pick (v := .bool _) rfl rfl rfl rfl ?_
          refine Plan.pick (v := .bool _) rfl rfl rfl rfl ?_
          refine Plan.done ?_
          refine HW.cond_true rfl ?_
          refine HW.region [(0, .st), (1, .st), (2, .st), (3, .st), (4, .ef)] rfl rfl ?_
          refine Plan.move (v := .slice _ _ _) rfl rfl rfl ?_
          refine Plan.move (v := .int _ _) rfl rfl rfl ?_
          refine Plan.indexN (k) rfl rfl slV sizV rfl rfl rfl rfl (hlt) ?_
          refine Plan.loadAgg rfl rfl aggV sizV rfl (Sees.ownV 0 enc2 rfl bo rfl k hlt hxk) rfl ?_
          refine Plan.storeA 1 rfl rfl hDn sizV rfl rfl rfl rfl rfl rfl ?_
          refine Plan.done ?_
          refine HW.region [(0, .st), (1, .st), (2, .st)] rfl rfl ?_
          refine Plan.move (v := .int _ _) rfl rfl rfl ?_
          refine Plan.arithI rfl rfl rfl rfl rfl (by omega) ?_
          refine Plan.assign (v := .int _ _) rfl rfl rfl ?_
          refine Plan.done ?_
          exact ⟨⟨k + 1, xk⟩, by dsimp only; omega, ⟨hlt, by have := hbo.new hlt (by rw [hxk]; exact h31) (by rw [hxk]; exact hne) (.inl h35); rw [hxk] at this; exact this⟩, rfl, Ent.sub (.refl _), (by repeat (first | exact Agree.havoc _ _ _ | refine Agree.updN ?_ | refine Agree.upd rfl ?_ | refine Agree.updL rfl ?_ | refine Agree.havoc2 rfl ?_)), ⟨rfl, trivial⟩⟩
        · skip
          have hmb : Bd 12 mm.1 ∧ Bd 12 mm.2 := by
            rcases hbo with ⟨h0, _⟩ | ⟨_, ⟨h1, _⟩, _⟩
            · exact absurd h0 h35
            · exact hits_bd (List.mem_of_mem_take h1)
          refine Plan.move (v := .bool _) rfl rfl rfl ?_
          refine Plan.move (v := .slice _ _ _) rfl rfl rfl ?_
          refine Plan.move (v := .int _ _) rfl rfl rfl ?_
          refine Plan.indexN (k) rfl rfl slV sizV rfl rfl rfl rfl (hlt) ?_
          refine Plan.loadAgg rfl rfl aggV sizV rfl (Sees.ownV 0 enc2 rfl bo rfl k hlt hxk) rfl ?_
          refine Plan.loadAll 1 rfl rfl aggV sizV rfl rfl rfl ?_
          refine Plan.callF [] 0 rfl rfl rfl (.inl rfl) (by simp) (fun w hm => nearer_ct xk mm w hbd hmb) ?_   -- tinplate/tinplateref04.nearer
          rintro v Ln ⟨rfl, rfl⟩
          refine Plan.splitB (fun h42 => ?_) (fun h42 => ?_)
          · skip
            refine Plan.pick (v := .bool _) rfl rfl rfl rfl ?_
            refine Plan.pick (v := .bool _) rfl rfl rfl rfl ?_
            refine Plan.done ?_
            refine HW.cond_true rfl ?_
            refine HW.region [(0, .st), (1, .st), (2, .st), (3, .st), (4, .ef)] rfl rfl ?_
            refine Plan.move (v := .slice _ _ _) rfl rfl rfl ?_
            refine Plan.move (v := .int _ _) rfl rfl rfl ?_
            refine Plan.indexN (k) rfl rfl slV sizV rfl rfl rfl rfl (hlt) ?_
            refine Plan.loadAgg rfl rfl aggV sizV rfl (Sees.ownV 0 enc2 rfl bo rfl k hlt hxk) rfl ?_
            refine Plan.storeA 1 rfl rfl hDn sizV rfl rfl rfl rfl rfl rfl ?_
            refine Plan.done ?_
            refine HW.region [(0, .st), (1, .st), (2, .st)] rfl rfl ?_
            refine Plan.move (v := .int _ _) rfl rfl rfl ?_
            refine Plan.arithI rfl rfl rfl rfl rfl (by omega) ?_
            refine Plan.assign (v := .int _ _) rfl rfl rfl ?_
            refine Plan.done ?_
            exact ⟨⟨k + 1, xk⟩, by dsimp only; omega, ⟨hlt, by have := hbo.new hlt (by rw [hxk]; exact h31) (by rw [hxk]; exact hne) (.inr (by rw [hxk]; exact h42)); rw [hxk] at this; exact this⟩, rfl, Ent.sub (.refl _), (by repeat (first | exact Agree.havoc _ _ _ | refine Agree.updN ?_ | refine Agree.upd rfl ?_ | refine Agree.updL rfl ?_ | refine Agree.havoc2 rfl ?_)), ⟨rfl, trivial⟩⟩
          · skip
            refine Plan.pick (v := .bool _) rfl rfl rfl rfl ?_
            refine Plan.pick (v := .bool _) rfl rfl rfl rfl ?_
            refine Plan.done ?_
            refine HW.cond_false rfl ?_
            refine HW.skip ?_
            refine HW.region [(0, .st), (1, .st), (2, .st)] rfl rfl ?_
            refine Plan.move (v := .int _ _) rfl rfl rfl ?_
            refine Plan.arithI rfl rfl rfl rfl rfl (by omega) ?_
            refine Plan.assign (v := .int _ _) rfl rfl rfl ?_
            refine Plan.done ?_
            exact ⟨⟨k + 1, mm⟩, by dsimp only; omega, ⟨hlt, hbo.keep hlt h35 (by rw [hxk]; exact h42)⟩, rfl, Ent.sub (.refl _), (by repeat (first | exact Agree.havoc _ _ _ | refine Agree.updN ?_ | refine Agree.upd rfl ?_ | refine Agree.updL rfl ?_ | refine Agree.havoc2 rfl ?_)), ⟨rfl, trivial⟩⟩
      · skip
        refine Plan.move (v := .bool _) rfl rfl rfl ?_
        refine Plan.no rfl rfl ?_
        refine Plan.no rfl rfl ?_
        refine Plan.no rfl rfl ?_
        refine Plan.no rfl rfl ?_
        refine Plan.no rfl rfl ?_
        refine Plan.no rfl rfl ?_
        refine Plan.no rfl rfl ?_
        refine Plan.no rfl rfl ?_
        refine Plan.no rfl rfl ?_
        refine Plan.noE rfl rfl ?_
        refine Plan.no rfl rfl ?_
        refine Plan.pick (v := .bool _) rfl rfl rfl rfl ?_
        refine Plan.done ?_
        refine HW.cond_false rfl ?_
        refine HW.skip ?_
        refine HW.region [(0, .st), (1, .st), (2, .st)] rfl rfl ?_
        refine Plan.move (v := .int _ _) rfl rfl rfl ?_
        refine Plan.arithI rfl rfl rfl rfl rfl (by omega) ?_
        refine Plan.assign (v := .int _ _) rfl rfl rfl ?_
        refine Plan.done ?_
        exact ⟨⟨k + 1, mm⟩, by dsimp only; omega, ⟨hlt, hbo.no hlt (by rw [hxk]; exact h31)⟩, rfl, Ent.sub (.refl _), (by repeat (first | exact Agree.havoc _ _ _ | refine Agree.updN ?_ | refine Agree.upd rfl ?_ | refine Agree.updL rfl ?_ | refine Agree.havoc2 rfl ?_)), ⟨rfl, trivial⟩⟩
    · replace h23 := of_decide_eq_false h23
      have hke : k = (hits p).length := by omega
      rw [hke, List.take_length] at hbo
      refine Plan.done ?_
      refine HW.cond_false rfl ?_
      refine HW.exit ?_
      refine HW.seq ?_
      refine HW.seq (HW.region [(0, .st), (1, .st), (2, .st)] rfl rfl ?_)
      refine Plan.loadAll 1 rfl rfl aggV sizV rfl rfl rfl ?_
      refine Plan.build rfl rfl rfl (bld0) ?_
      refine Plan.eqV mm ((0, 0)) rfl rfl rfl rfl rfl (fun h51 => ?_) (fun h51 => ?_)
      · skip
        refine Plan.done ?_
        refine HW.cond_true rfl ?_
        refine HW.seq (HW.region [(0, .st), (1, .ef), (2, .st)] rfl rfl ?_)
        refine Plan.loadAll 1 rfl rfl aggV sizV rfl rfl rfl ?_
        refine Plan.storeA 2 rfl rfl hDn sizV rfl rfl rfl rfl rfl rfl ?_
        refine Plan.assign (v := .int _ _) rfl rfl rfl ?_
        refine Plan.done ?_
        exact HW.ret ⟨rfl, _, [], .cell rfl (own_loadAgg 2 rfl aggV sizV rfl) (.tmp rfl .nil), List.nil_sublist _, mm, 10, .inl ⟨rfl, h51, by
            rcases hbo with ⟨_, h⟩ | ⟨h0, _⟩
            · exact h
            · exact absurd h51 h0⟩, rfl, rfl⟩
      · skip
        refine Plan.done ?_
        refine HW.cond_false rfl ?_
        refine HW.skip ?_
        refine HW.seq (HW.region [(0, .st), (1, .ef), (2, .st)] rfl rfl ?_)
        refine Plan.loadAll 1 rfl rfl aggV sizV rfl rfl rfl ?_
        refine Plan.storeA 2 rfl rfl hDn sizV rfl rfl rfl rfl rfl rfl ?_
        refine Plan.assign (v := .int _ _) rfl rfl rfl ?_
        refine Plan.done ?_
        exact HW.ret ⟨rfl, _, [], .cell rfl (own_loadAgg 2 rfl aggV sizV rfl) (.tmp rfl .nil), List.nil_sublist _, mm, 0, .inr (by
            rcases hbo with ⟨h0, _⟩ | ⟨_, h1, h2⟩
            · exact absurd h0 h51
            · exact ⟨rfl, h1, h2⟩), rfl, rfl⟩

theorem WitnessR_no (A : Option Addr) (p : List Pt) (n c : Nat) (a b d : Int) (w : World) (hp : Rd enc 2 w A p) (hn : n = p.length) (hlen : p.length ≤ 1000000) (hb : (blankF p && goodG (a, b, d)) = false) :
    Ct P 31 #[.slice A n c, gdv a b d] w [] (fun r L => r = .tuple #[vc (0, 0), int 2] ∧ L = []) := by
  subst hn
  have hs : ∀ w, Rd enc 2 w A p → Ct P 57 #[.slice A p.length c, gdv a b d] w [] (fun r L => r = int 2 ∧ L = []) := fun w h => by
    have := asksR_ct A p p.length c a b d w h rfl hlen
    simp only [if_neg (show ¬ (blankF p && goodG (a, b, d)) = true by rw [hb]; decide)] at this
    exact this
  refine Ct.of_body (rs := [.cell 4 52, .tmp 5]) (N := 54) (L := []) Try.func31 rfl rfl rfl (by kernel_rfl) rfl (Mem.refl w) ?_
  refine HW.seq (HW.region [(0, .ef), (1, .al), (2, .st)] rfl rfl ?_)
  refine Plan.boxA rfl rfl rfl fun b3 => ?_
  refine Plan.alloc rfl zerV fun b4 => ?_
  refine Plan.assign (v := .int _ _) rfl rfl rfl ?_
  refine Plan.done ?_
  refine HW.seq (HW.region [(0, .st), (1, .st), (2, .ef), (3, .st)] rfl rfl ?_)
  refine Plan.move (v := .slice _ _ _) rfl rfl rfl ?_
  refine Plan.loadAll 1 rfl rfl aggGrid sizGrid rfl rfl rfl ?_
  refine Plan.callF [] 0 rfl rfl rfl (.inl rfl) (by simp) (fun w hm => hs w (hp.mem hm)) ?_   -- tinplate/tinplateref04.asks
  rintro v Ln ⟨rfl, rfl⟩
  refine Plan.assign (v := .int _ _) rfl rfl rfl ?_
  refine Plan.done ?_
  refine HW.seq ?_
  refine HW.seq (HW.region [(0, .st), (1, .st)] rfl rfl ?_)
  refine Plan.move (v := .int _ _) rfl rfl rfl ?_
  refine Plan.cmp2 rfl rfl rfl rfl rfl (fun h14 => ?_) (fun h14 => ?_)
  · replace h14 := ne_of_t h14
    refine Plan.done ?_
    refine HW.cond_true rfl ?_
    refine HW.seq (HW.region [(0, .st), (1, .st), (2, .ef), (3, .st)] rfl rfl ?_)
    refine Plan.build rfl rfl rfl (bld0) ?_
    refine Plan.move (v := .int _ _) rfl rfl rfl ?_
    refine Plan.storeA 0 rfl rfl hDn sizV rfl rfl rfl rfl rfl rfl ?_
    refine Plan.assign (v := .int _ _) rfl rfl rfl ?_
    refine Plan.done ?_
    exact HW.ret ⟨rfl, _, [], .cell rfl (own_loadAgg 0 rfl aggV sizV rfl) (.tmp rfl .nil), List.nil_sublist _, rfl, rfl⟩
  · replace h14 := eq_of_f h14
    exact absurd h14 (by decide)

end Go.Proofs.Ytjmklbkcpjmcaaa.V
