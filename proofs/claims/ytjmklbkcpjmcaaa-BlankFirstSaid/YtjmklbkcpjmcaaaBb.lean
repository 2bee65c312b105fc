/-
  BlankFirst, its contract.
-/
import Derived.Test.YtjmklbkcpjmcaaaBa
namespace Go.Proofs.Ytjmklbkcpjmcaaa.V
open Go Go.RowKit Go.Proofs.Ytjmklbkcpjmcaaa.H Go.Proofs.Ytjmklbkcpjmcaaa.LL
set_option linter.unusedVariables false
set_option linter.unusedSimpArgs false

theorem den_good {p : List Pt} {i a b : Nat} (hd : Den (adm p) i a b) (hi : i ≤ 169) : goodG ((a : Int), (b : Int), ((i / a : Nat) : Int)) = true ∧ ((a : Int) * ((i / a : Nat) : Int)) = (i : Int) := by
  have h1 := Nat.div_le_self i a
  have h2 := hd.bd
  have h3 := hd.a0
  have h4 := hd.ai
  refine ⟨by simp only [goodG, decide_eq_true_eq]; omega, ?_⟩
  have h5 : a * (i / a) = i := by
    have := Nat.div_add_mod i a
    rw [hd.dvd] at this
    omega
  have h6 : ((a * (i / a) : Nat) : Int) = (a : Int) * ((i / a : Nat) : Int) := by push_cast; rfl
  rw [← h6, h5]

theorem first_spec {p : List Pt} {i a b : Nat} (hd : Den (adm p) i a b) (hi : i ≤ 169) {x y z : Int} (hg : goodG (x, y, z) = true) (ha : admB p (x, y, z) = true) :
    (i : Int) ≤ x * z ∧ ((i : Int) = x * z → (a : Int) ≤ x ∧ ((a : Int) = x → (b : Int) ≤ y)) := by
  obtain ⟨x1, x2, z1, z2, y1, y2⟩ := of_decide_eq_true hg
  simp only at x1 x2 z1 z2 y1 y2
  obtain ⟨X, rfl⟩ := Int.eq_ofNat_of_zero_le (show 0 ≤ x by omega)
  obtain ⟨Y, rfl⟩ := Int.eq_ofNat_of_zero_le (show 0 ≤ y by omega)
  obtain ⟨Z, rfl⟩ := Int.eq_ofNat_of_zero_le (show 0 ≤ z by omega)
  have hx0 : 0 < X := by omega
  have hz0 : 0 < Z := by omega
  have e1 : X * Z / X = Z := Nat.mul_div_cancel_left Z hx0
  have e2 : X * Z % X = 0 := Nat.mul_mod_right X Z
  have e3 : X ≤ X * Z := Nat.le_mul_of_pos_right X hz0
  have e4 : ((X * Z : Nat) : Int) = (X : Int) * (Z : Int) := by push_cast; rfl
  have hadm : adm p (X, Y, X * Z / X) := by rw [e1]; exact ha
  have key := hd.first (X * Z) X Y hx0 e3 e2 (by rw [e1]; omega)
  have key : ¬ (X * Z < i ∨ (X * Z = i ∧ (X < a ∨ (X = a ∧ Y < b)))) := fun h => key h hadm
  refine ⟨by omega, fun h => ⟨by omega, fun h' => by omega⟩⟩

theorem First_far (A : Option Addr) (p : List Pt) (n c : Nat) (x y z : Int) (w : World) (hn : n = p.length) (h60 : ¬ p.length ≤ 60) :
    Ct P 6 #[.slice A n c, gdv x y z] w [] (fun r L => r = .bool true ∧ L = []) := by
  subst hn
  refine Ct.of_body (rs := [.tmp 4]) (N := 98) (L := []) Try.func6 rfl rfl rfl (by kernel_rfl) rfl (Mem.refl w) ?_
  refine HW.seq (HW.region [(0, .ef), (1, .st)] rfl rfl ?_)
  refine Plan.boxA rfl rfl rfl fun b3 => ?_
  refine Plan.assign (v := .bool _) rfl rfl rfl ?_
  refine Plan.done ?_
  refine HW.seq ?_
  refine HW.seq (HW.region [(0, .st), (1, .ef), (2, .st)] rfl rfl ?_)
  refine Plan.move (v := .slice _ _ _) rfl rfl rfl ?_
  refine Plan.callF [] 0 rfl rfl rfl (.inl rfl) (by simp) (fun w hm => few_ct A p _ c w rfl) ?_   -- tinplate/tinplatelaw04.few
  rintro v Ln ⟨rfl, rfl⟩
  refine Plan.splitB (fun h12 => ?_) (fun h12 => ?_)
  · skip
    exact absurd (of_decide_eq_true h12) h60
  · skip
    refine Plan.not rfl rfl rfl ?_
    refine Plan.done ?_
    refine HW.cond_true rfl ?_
    refine HW.seq (HW.region [(0, .ef), (1, .st)] rfl rfl ?_)
    refine Plan.callF [] 0 rfl rfl rfl (.inl rfl) (by simp) (fun w hm => alive_ct w) ?_   -- tinplate/tinplatelaw04.alive
    rintro v Ln ⟨rfl, rfl⟩
    refine Plan.splitB (fun h14 => ?_) (fun h14 => ?_)
    · skip
      refine Plan.assign (v := .bool _) rfl rfl rfl ?_
      refine Plan.done ?_
      exact HW.ret ⟨rfl, _, [], .tmp rfl .nil, List.nil_sublist _, rfl, rfl⟩
    · skip
      exact absurd h14 (by decide)

theorem First_no (A : Option Addr) (p : List Pt) (n c : Nat) (x y z : Int) (w : World) (hp : Rd enc 2 w A p) (hn : n = p.length) (h60 : p.length ≤ 60) (hb : blankF p = false) :
    Ct P 6 #[.slice A n c, gdv x y z] w [] (fun r L => r = .bool true ∧ L = []) := by
  subst hn
  refine Ct.of_body (rs := [.tmp 4]) (N := 98) (L := []) Try.func6 rfl rfl rfl (by kernel_rfl) rfl (Mem.refl w) ?_
  refine HW.seq (HW.region [(0, .ef), (1, .st)] rfl rfl ?_)
  refine Plan.boxA rfl rfl rfl fun b3 => ?_
  refine Plan.assign (v := .bool _) rfl rfl rfl ?_
  refine Plan.done ?_
  refine HW.seq ?_
  refine HW.seq (HW.region [(0, .st), (1, .ef), (2, .st)] rfl rfl ?_)
  refine Plan.move (v := .slice _ _ _) rfl rfl rfl ?_
  refine Plan.callF [] 0 rfl rfl rfl (.inl rfl) (by simp) (fun w hm => few_ct A p _ c w rfl) ?_   -- tinplate/tinplatelaw04.few
  rintro v Ln ⟨rfl, rfl⟩
  refine Plan.splitB (fun h12 => ?_) (fun h12 => ?_)
  · skip
    refine Plan.not rfl rfl rfl ?_
    refine Plan.done ?_
    refine HW.cond_false rfl ?_
    refine HW.skip ?_
    refine HW.seq (HW.region [(0, .st), (1, .ef), (2, .st), (3, .st), (4, .st), (5, .al), (6, .ef), (7, .st)] rfl rfl ?_)
    refine Plan.move (v := .slice _ _ _) rfl rfl rfl ?_
    refine Plan.callF [] 0 rfl rfl rfl (.inl rfl) (by simp) (fun w hm => Densest_no A p _ c w (hp.mem hm) rfl (by omega) hb) ?_   -- tinplate/blank.Densest
    rintro v Ln ⟨rfl, rfl⟩
    refine Plan.move (v := .tuple _) rfl rfl rfl ?_
    refine Plan.extract (v := .agg _) rfl rfl rfl rfl ?_
    refine Plan.extract (v := .int _ _) rfl rfl rfl rfl ?_
    refine Plan.alloc rfl zerGrid fun b5 => ?_
    refine Plan.storeA 0 rfl rfl hDn sizGrid rfl rfl rfl rfl rfl rfl ?_
    refine Plan.assign (v := .int _ _) rfl rfl rfl ?_
    refine Plan.done ?_
    refine HW.seq ?_
    refine HW.seq (HW.region [(0, .st), (1, .st)] rfl rfl ?_)
    refine Plan.move (v := .int _ _) rfl rfl rfl ?_
    refine Plan.cmp2 rfl rfl rfl rfl rfl (fun h21 => ?_) (fun h21 => ?_)
    · replace h21 := ne_of_t h21
      refine Plan.done ?_
      refine HW.cond_true rfl ?_
      refine HW.seq (HW.region [(0, .st), (1, .st), (2, .st), (3, .ef), (4, .st), (5, .st)] rfl rfl ?_)
      refine Plan.move (v := .int _ _) rfl rfl rfl ?_
      refine Plan.cmp2 rfl rfl rfl rfl rfl (fun h23 => ?_) (fun h23 => ?_)
      · replace h23 := of_decide_eq_true h23
        refine Plan.move (v := .bool _) rfl rfl rfl ?_
        refine Plan.callF [] 0 rfl rfl rfl (.inl rfl) (by simp) (fun w hm => alive_ct w) ?_   -- tinplate/tinplatelaw04.alive
        rintro v Ln ⟨rfl, rfl⟩
        refine Plan.splitB (fun h25 => ?_) (fun h25 => ?_)
        · skip
          refine Plan.pick (v := .bool _) rfl rfl rfl rfl ?_
          refine Plan.assign (v := .bool _) rfl rfl rfl ?_
          refine Plan.done ?_
          exact HW.ret ⟨rfl, _, [], .tmp rfl .nil, List.nil_sublist _, rfl, rfl⟩
        · skip
          exact absurd h25 (by decide)
      · replace h23 := of_decide_eq_false h23
        exact absurd rfl h23
    · replace h21 := eq_of_f h21
      exact absurd h21 (by decide)
  · skip
    exact absurd h60 (of_decide_eq_false h12)

theorem First_ok (A : Option Addr) (p : List Pt) (n c : Nat) (x y z : Int) (w : World) (hp : Rd enc 2 w A p) (hn : n = p.length) (h60 : p.length ≤ 60) (hb : blankF p = true) :
    Ct P 6 #[.slice A n c, gdv x y z] w [] (fun r L => r = .bool true ∧ L = []) := by
  subst hn
  refine Ct.of_body (rs := [.tmp 4]) (N := 98) (L := []) Try.func6 rfl rfl rfl (by kernel_rfl) rfl (Mem.refl w) ?_
  refine HW.seq (HW.region [(0, .ef), (1, .st)] rfl rfl ?_)
  refine Plan.boxA rfl rfl rfl fun b3 => ?_
  refine Plan.assign (v := .bool _) rfl rfl rfl ?_
  refine Plan.done ?_
  refine HW.seq ?_
  refine HW.seq (HW.region [(0, .st), (1, .ef), (2, .st)] rfl rfl ?_)
  refine Plan.move (v := .slice _ _ _) rfl rfl rfl ?_
  refine Plan.callF [] 0 rfl rfl rfl (.inl rfl) (by simp) (fun w hm => few_ct A p _ c w rfl) ?_   -- tinplate/tinplatelaw04.few
  rintro v Ln ⟨rfl, rfl⟩
  refine Plan.splitB (fun h12 => ?_) (fun h12 => ?_)
  · skip
    refine Plan.not rfl rfl rfl ?_
    refine Plan.done ?_
    refine HW.cond_false rfl ?_
    refine HW.skip ?_
    refine HW.seq (HW.region [(0, .st), (1, .ef), (2, .st), (3, .st), (4, .st), (5, .al), (6, .ef), (7, .st)] rfl rfl ?_)
    refine Plan.move (v := .slice _ _ _) rfl rfl rfl ?_
    refine Plan.callF [] 0 rfl rfl rfl (.inl rfl) (by simp) (fun w hm => Densest_ok A p _ c w (hp.mem hm) rfl (by omega) hb) ?_   -- tinplate/blank.Densest
    rintro v Ln ⟨⟨i, a, b, hd, hi, rfl⟩, rfl⟩
    obtain ⟨hgd, hia⟩ := den_good hd hi
    have hadm : admB p ((a : Int), (b : Int), ((i / a : Nat) : Int)) = true := hd.ok
    refine Plan.move (v := .tuple _) rfl rfl rfl ?_
    refine Plan.extract (v := .agg _) rfl rfl rfl rfl ?_
    refine Plan.extract (v := .int _ _) rfl rfl rfl rfl ?_
    refine Plan.alloc rfl zerGrid fun b5 => ?_
    refine Plan.storeA 0 rfl rfl hDn sizGrid rfl rfl rfl rfl rfl rfl ?_
    refine Plan.assign (v := .int _ _) rfl rfl rfl ?_
    refine Plan.done ?_
    refine HW.seq ?_
    refine HW.seq (HW.region [(0, .st), (1, .st)] rfl rfl ?_)
    refine Plan.move (v := .int _ _) rfl rfl rfl ?_
    refine Plan.cmp2 rfl rfl rfl rfl rfl (fun h21 => ?_) (fun h21 => ?_)
    · replace h21 := ne_of_t h21
      exact absurd rfl h21
    · replace h21 := eq_of_f h21
      refine Plan.done ?_
      refine HW.cond_false rfl ?_
      refine HW.skip ?_
      refine HW.seq (HW.region [(0, .st), (1, .st), (2, .ef), (3, .st), (4, .st), (5, .st), (6, .st), (7, .st)] rfl rfl ?_)
      refine Plan.move (v := .slice _ _ _) rfl rfl rfl ?_
      refine Plan.loadAll 0 rfl rfl aggGrid sizGrid rfl rfl rfl ?_
      refine Plan.callF [] 0 rfl rfl rfl (.inl rfl) (by simp) (fun w hm => Admissible_ok A p _ c a b (i / a : Nat) w (hp.mem hm) rfl (by omega) hb hgd) ?_   -- tinplate/blank.Admissible
      rintro v Ln ⟨rfl, rfl⟩
      rw [hadm]
      refine Plan.move (v := .tuple _) rfl rfl rfl ?_
      refine Plan.extract (v := .bool _) rfl rfl rfl rfl ?_
      refine Plan.extract (v := .int _ _) rfl rfl rfl rfl ?_
      refine Plan.assign (v := .bool _) rfl rfl rfl ?_
      refine Plan.assign (v := .int _ _) rfl rfl rfl ?_
      refine Plan.done ?_
      refine HW.seq (HW.region [(0, .st), (1, .st), (2, .ef), (3, .st), (4, .st), (5, .st), (6, .st), (7, .st)] rfl rfl ?_)
      refine Plan.move (v := .slice _ _ _) rfl rfl rfl ?_
      refine Plan.loadAll 1 rfl rfl aggGrid sizGrid rfl rfl rfl ?_
      refine Plan.callF [] 0 rfl rfl rfl (.inl rfl) (by simp) (fun w hm => Admissible_ct A p _ c x y z w (hp.mem hm) rfl (by omega)) ?_   -- tinplate/blank.Admissible
      rintro v Ln ⟨rfl, rfl⟩
      refine Plan.move (v := .tuple _) rfl rfl rfl ?_
      refine Plan.extract (v := .bool _) rfl rfl rfl rfl ?_
      refine Plan.extract (v := .int _ _) rfl rfl rfl rfl ?_
      refine Plan.assign (v := .bool _) rfl rfl rfl ?_
      refine Plan.assign (v := .int _ _) rfl rfl rfl ?_
      refine Plan.done ?_
      refine HW.seq ?_
      refine HW.seq (HW.region [(0, .st), (1, .st), (2, .st), (3, .st), (4, .st), (5, .st)] rfl rfl ?_)
      refine Plan.move (v := .int _ _) rfl rfl rfl ?_
      refine Plan.cmp2 rfl rfl rfl rfl rfl (fun h40 => ?_) (fun h40 => ?_)
      · replace h40 := ne_of_t h40
        exact absurd rfl h40
      · replace h40 := eq_of_f h40
        refine Plan.move (v := .bool _) rfl rfl rfl ?_
        refine Plan.move (v := .bool _) rfl rfl rfl ?_
        refine Plan.not rfl rfl rfl ?_
        refine Plan.pick (v := .bool _) rfl rfl rfl rfl ?_
        refine Plan.done ?_
        refine HW.cond _ rfl (fun hc => ?_) (fun hc => ?_)
        · skip
          exact absurd hc (by decide)
        · skip
          refine HW.skip ?_
          refine HW.seq ?_
          refine HW.seq (HW.region [(0, .st), (1, .st), (2, .st), (3, .st), (4, .st), (5, .st)] rfl rfl ?_)
          refine Plan.move (v := .int _ _) rfl rfl rfl ?_
          refine Plan.cmp2 rfl rfl rfl rfl rfl (fun h46 => ?_) (fun h46 => ?_)
          · replace h46 := ne_of_t h46
            refine Plan.move (v := .bool _) rfl rfl rfl ?_
            refine Plan.no rfl rfl ?_
            refine Plan.no rfl rfl ?_
            refine Plan.pick (v := .bool _) rfl rfl rfl rfl ?_
            refine Plan.done ?_
            refine HW.cond_true rfl ?_
            refine HW.seq (HW.region [(0, .ef), (1, .st)] rfl rfl ?_)
            refine Plan.callF [] 0 rfl rfl rfl (.inl rfl) (by simp) (fun w hm => alive_ct w) ?_   -- tinplate/tinplatelaw04.alive
            rintro v Ln ⟨rfl, rfl⟩
            refine Plan.splitB (fun h51 => ?_) (fun h51 => ?_)
            · skip
              refine Plan.assign (v := .bool _) rfl rfl rfl ?_
              refine Plan.done ?_
              exact HW.ret ⟨rfl, _, [], .tmp rfl .nil, List.nil_sublist _, rfl, rfl⟩
            · skip
              exact absurd h51 (by decide)
          · replace h46 := eq_of_f h46
            refine Plan.move (v := .bool _) rfl rfl rfl ?_
            refine Plan.move (v := .bool _) rfl rfl rfl ?_
            refine Plan.not rfl rfl rfl ?_
            refine Plan.pick (v := .bool _) rfl rfl rfl rfl ?_
            refine Plan.done ?_
            refine HW.cond _ rfl (fun hc => ?_) (fun hc => ?_)
            · skip
              refine HW.seq (HW.region [(0, .ef), (1, .st)] rfl rfl ?_)
              refine Plan.callF [] 0 rfl rfl rfl (.inl rfl) (by simp) (fun w hm => alive_ct w) ?_   -- tinplate/tinplatelaw04.alive
              rintro v Ln ⟨rfl, rfl⟩
              refine Plan.splitB (fun h51 => ?_) (fun h51 => ?_)
              · skip
                refine Plan.assign (v := .bool _) rfl rfl rfl ?_
                refine Plan.done ?_
                exact HW.ret ⟨rfl, _, [], .tmp rfl .nil, List.nil_sublist _, rfl, rfl⟩
              · skip
                exact absurd h51 (by decide)
            · skip
              have hF : AdmissibleF p (x, y, z) = if blankF p && goodG (x, y, z) then (admB p (x, y, z), 0) else (false, 2) := rfl
              have hgz : goodG (x, y, z) = true := by
                rcases Bool.eq_false_or_eq_true (goodG (x, y, z)) with h | h
                · exact h
                · rw [hb, h, if_neg (by decide)] at hF
                  rw [hF] at h46
                  exact absurd h46 (by decide)
              rw [hb, hgz, if_pos (by decide)] at hF
              have hax : admB p (x, y, z) = true := by
                rw [hF] at hc
                simpa using hc
              obtain ⟨f1, f2⟩ := first_spec hd hi hgz hax
              obtain ⟨x1, x2, z1, z2, y1, y2⟩ := of_decide_eq_true hgz
              simp only at x1 x2 z1 z2 y1 y2
              have q1 := mul_bd (a := x) (b := z) (N := 400) (M := 400) (by omega) (by omega)
              refine HW.skip ?_
              refine HW.seq ?_
              refine HW.seq (HW.region [(0, .st), (1, .st), (2, .st), (3, .st), (4, .st), (5, .st), (6, .st), (7, .st), (8, .st), (9, .st), (10, .st)] rfl rfl ?_)
              refine Plan.fieldAddr rfl rfl fldGrid0 rfl ?_
              refine Plan.load (v := .int _ _) rfl rfl aggI rfl (Sees.one 0 rfl rfl) ?_
              refine Plan.fieldAddr rfl rfl fldGrid2 rfl ?_
              refine Plan.load (v := .int _ _) rfl rfl aggI rfl (Sees.one 0 rfl rfl) ?_
              refine Plan.arithI rfl rfl rfl rfl rfl (by omega) ?_
              refine Plan.fieldAddr rfl rfl fldGrid0 rfl ?_
              refine Plan.load (v := .int _ _) rfl rfl aggI rfl (Sees.one 1 rfl rfl) ?_
              refine Plan.fieldAddr rfl rfl fldGrid2 rfl ?_
              refine Plan.load (v := .int _ _) rfl rfl aggI rfl (Sees.one 1 rfl rfl) ?_
              refine Plan.arithI rfl rfl rfl rfl rfl (by omega) ?_
              refine Plan.cmp2 rfl rfl rfl rfl rfl (fun h62 => ?_) (fun h62 => ?_)
              · replace h62 := ne_of_t h62
                refine Plan.done ?_
                refine HW.cond_true rfl ?_
                refine HW.seq (HW.region [(0, .st), (1, .st), (2, .st), (3, .st), (4, .st), (5, .st), (6, .st), (7, .st), (8, .st), (9, .st), (10, .st), (11, .st), (12, .ef), (13, .st), (14, .st)] rfl rfl ?_)
                refine Plan.fieldAddr rfl rfl fldGrid0 rfl ?_
                refine Plan.load (v := .int _ _) rfl rfl aggI rfl (Sees.one 0 rfl rfl) ?_
                refine Plan.fieldAddr rfl rfl fldGrid2 rfl ?_
                refine Plan.load (v := .int _ _) rfl rfl aggI rfl (Sees.one 0 rfl rfl) ?_
                refine Plan.arithI rfl rfl rfl rfl rfl (by omega) ?_
                refine Plan.fieldAddr rfl rfl fldGrid0 rfl ?_
                refine Plan.load (v := .int _ _) rfl rfl aggI rfl (Sees.one 1 rfl rfl) ?_
                refine Plan.fieldAddr rfl rfl fldGrid2 rfl ?_
                refine Plan.load (v := .int _ _) rfl rfl aggI rfl (Sees.one 1 rfl rfl) ?_
                refine Plan.arithI rfl rfl rfl rfl rfl (by omega) ?_
                refine Plan.cmp2 rfl rfl rfl rfl rfl (fun h73 => ?_) (fun h73 => ?_)
                · replace h73 := of_decide_eq_true h73
                  refine Plan.move (v := .bool _) rfl rfl rfl ?_
                  refine Plan.callF [] 0 rfl rfl rfl (.inl rfl) (by simp) (fun w hm => alive_ct w) ?_   -- tinplate/tinplatelaw04.alive
                  rintro v Ln ⟨rfl, rfl⟩
                  refine Plan.splitB (fun h75 => ?_) (fun h75 => ?_)
                  · skip
                    refine Plan.pick (v := .bool _) rfl rfl rfl rfl ?_
                    refine Plan.assign (v := .bool _) rfl rfl rfl ?_
                    refine Plan.done ?_
                    exact HW.ret ⟨rfl, _, [], .tmp rfl .nil, List.nil_sublist _, rfl, rfl⟩
                  · skip
                    exact absurd h75 (by decide)
                · replace h73 := of_decide_eq_false h73
                  omega
              · replace h62 := eq_of_f h62
                refine Plan.done ?_
                refine HW.cond_false rfl ?_
                refine HW.skip ?_
                refine HW.seq ?_
                refine HW.seq (HW.region [(0, .st), (1, .st), (2, .st), (3, .st), (4, .st)] rfl rfl ?_)
                refine Plan.fieldAddr rfl rfl fldGrid0 rfl ?_
                refine Plan.load (v := .int _ _) rfl rfl aggI rfl (Sees.one 0 rfl rfl) ?_
                refine Plan.fieldAddr rfl rfl fldGrid0 rfl ?_
                refine Plan.load (v := .int _ _) rfl rfl aggI rfl (Sees.one 1 rfl rfl) ?_
                refine Plan.cmp2 rfl rfl rfl rfl rfl (fun h81 => ?_) (fun h81 => ?_)
                · replace h81 := ne_of_t h81
                  refine Plan.done ?_
                  refine HW.cond_true rfl ?_
                  refine HW.seq (HW.region [(0, .st), (1, .st), (2, .st), (3, .st), (4, .st), (5, .st), (6, .ef), (7, .st), (8, .st)] rfl rfl ?_)
                  refine Plan.fieldAddr rfl rfl fldGrid0 rfl ?_
                  refine Plan.load (v := .int _ _) rfl rfl aggI rfl (Sees.one 0 rfl rfl) ?_
                  refine Plan.fieldAddr rfl rfl fldGrid0 rfl ?_
                  refine Plan.load (v := .int _ _) rfl rfl aggI rfl (Sees.one 1 rfl rfl) ?_
                  refine Plan.cmp2 rfl rfl rfl rfl rfl (fun h86 => ?_) (fun h86 => ?_)
                  · replace h86 := of_decide_eq_true h86
                    refine Plan.move (v := .bool _) rfl rfl rfl ?_
                    refine Plan.callF [] 0 rfl rfl rfl (.inl rfl) (by simp) (fun w hm => alive_ct w) ?_   -- tinplate/tinplatelaw04.alive
                    rintro v Ln ⟨rfl, rfl⟩
                    refine Plan.splitB (fun h88 => ?_) (fun h88 => ?_)
                    · skip
                      refine Plan.pick (v := .bool _) rfl rfl rfl rfl ?_
                      refine Plan.assign (v := .bool _) rfl rfl rfl ?_
                      refine Plan.done ?_
                      exact HW.ret ⟨rfl, _, [], .tmp rfl .nil, List.nil_sublist _, rfl, rfl⟩
                    · skip
                      exact absurd h88 (by decide)
                  · replace h86 := of_decide_eq_false h86
                    omega
                · replace h81 := eq_of_f h81
                  refine Plan.done ?_
                  refine HW.cond_false rfl ?_
                  refine HW.skip ?_
                  refine HW.seq (HW.region [(0, .st), (1, .st), (2, .st), (3, .st), (4, .st), (5, .st), (6, .ef), (7, .st), (8, .st)] rfl rfl ?_)
                  refine Plan.fieldAddr rfl rfl fldGrid1 rfl ?_
                  refine Plan.load (v := .int _ _) rfl rfl aggI rfl (Sees.one 0 rfl rfl) ?_
                  refine Plan.fieldAddr rfl rfl fldGrid1 rfl ?_
                  refine Plan.load (v := .int _ _) rfl rfl aggI rfl (Sees.one 1 rfl rfl) ?_
                  refine Plan.cmp2 rfl rfl rfl rfl rfl (fun h94 => ?_) (fun h94 => ?_)
                  · replace h94 := of_decide_eq_true h94
                    refine Plan.move (v := .bool _) rfl rfl rfl ?_
                    refine Plan.callF [] 0 rfl rfl rfl (.inl rfl) (by simp) (fun w hm => alive_ct w) ?_   -- tinplate/tinplatelaw04.alive
                    rintro v Ln ⟨rfl, rfl⟩
                    refine Plan.splitB (fun h96 => ?_) (fun h96 => ?_)
                    · skip
                      refine Plan.pick (v := .bool _) rfl rfl rfl rfl ?_
                      refine Plan.assign (v := .bool _) rfl rfl rfl ?_
                      refine Plan.done ?_
                      exact HW.ret ⟨rfl, _, [], .tmp rfl .nil, List.nil_sublist _, rfl, rfl⟩
                    · skip
                      exact absurd h96 (by decide)
                  · replace h94 := of_decide_eq_false h94
                    omega
  · skip
    exact absurd h60 (of_decide_eq_false h12)

theorem blankFirst_ct (A : Option Addr) (p : List Pt) (x y z : Int) (n c : Nat) (w : World) (hp : Rd enc 2 w A p) (hn : n = p.length) :
    Ct P 6 #[.slice A n c, gdv x y z] w [] (fun r L => r = .bool true ∧ L = []) := by
  by_cases h60 : p.length ≤ 60
  · rcases Bool.eq_false_or_eq_true (blankF p) with hb | hb
    · exact First_ok A p n c x y z w hp hn h60 hb
    · exact First_no A p n c x y z w hp hn h60 hb
  · exact First_far A p n c x y z w hn h60

end Go.Proofs.Ytjmklbkcpjmcaaa.V
