/-
  Package tinplateref04: read, Worth.
-/
import Derived.Test.YtjmklbkcpjmcaaaBf
import Derived.Test.YtjmklbkcpjmcaaaBe
namespace Go.Proofs.Ytjmklbkcpjmcaaa.V
open Go Go.RowKit Go.Proofs.Ytjmklbkcpjmcaaa.H Go.Proofs.Ytjmklbkcpjmcaaa.LL
set_option linter.unusedVariables false
set_option linter.unusedSimpArgs false

abbrev RefR (l : List It) (mb mc D : Nat) (p : List Ct2) (m : List Int) (a b : Nat) : Value → List Res → Prop := fun r L =>
  ∃ (e : Int) (m' : List Int), r = .tuple #[int e, slv (some mb) l.length mc] ∧ L = [ownI (some mb) mc m'] ∧ (rdP l a b p = none → e = -1) ∧ ∀ p' u, rdP l a b p = some (p', u) → e = (D : Int) - p'.length ∧ m' = addU m u
theorem RefR_no {l : List It} {mb mc D : Nat} {p : List Ct2} {m : List Int} {a b : Nat} (m' : List Int) (e : rdP l a b p = none) : RefR l mb mc D p m a b (.tuple #[int (-1), slv (some mb) l.length mc]) [ownI (some mb) mc m'] :=
  ⟨-1, m', rfl, rfl, fun _ => rfl, fun p' u h => by rw [e] at h; cases h⟩
theorem RefR_yes {l : List It} {mb mc D : Nat} {p p' : List Ct2} {m m' : List Int} {a b : Nat} {u : List Nat} {x : Int} (e : rdP l a b p = some (p', u)) (hx : x = (D : Int) - p'.length) (hm : m' = addU m u) : RefR l mb mc D p m a b (.tuple #[int x, slv (some mb) l.length mc]) [ownI (some mb) mc m'] :=
  ⟨x, m', rfl, rfl, fun h => (by rw [e] at h; cases h), fun p2 u2 h => by
    rw [e] at h
    simp only [Option.some.injEq, Prod.mk.injEq] at h
    obtain ⟨rfl, rfl⟩ := h
    exact ⟨hx, hm⟩⟩

/-- the contract of read, from a step on -/
def RReadAt (l : List It) (A : Option Addr) (c mb mc : Nat) (q : List Ct2) (B : Option Addr) (pc N : Nat) : Prop := ∀ (k : Nat) (m : List Int) (a b : Nat) (w : World), k ≤ q.length → q.length - k < N → 0 < a → 0 < b → a ≤ 100 → b ≤ 100 →
  Rd encT 3 w A l → Off [mb] A l.length → Rd enc 2 w B q → Off [mb] B q.length → (ownI (some mb) mc m).holds w → m.length = l.length → (∀ x ∈ m, 0 ≤ x ∧ x + ((q.length - k : Nat) : Int) ≤ 1099511627776) →
  Ct P 54 #[int a, int b, .slice A l.length c, .slice B q.length pc, int k, slv (some mb) l.length mc] w [mb] (RefR l mb mc q.length (q.drop k) m a b)

theorem Mem.ownI1 {w : World} {mb mc : Nat} {m : List Int} (h : (ownI (some mb) mc m).holds w) : Mem w [mb] [ownI (some mb) mc m] w := Mem.own1 h (fun b hb => by
  obtain rfl := List.mem_singleton.1 hb
  exact Res.own_lt h)

theorem read_neg (l : List It) (A B : Option Addr) (c mb mc pn pc a b : Nat) (m : List Int) (k : Int) (w : World) (hk : k < 0) (h : (ownI (some mb) mc m).holds w) :
    Ct P 54 #[int a, int b, .slice A l.length c, .slice B pn pc, int k, slv (some mb) l.length mc] w [mb] (fun r L => r = .tuple #[int (-1), slv (some mb) l.length mc] ∧ L = [ownI (some mb) mc m]) := by
  refine Ct.of_body (rs := [.tmp 12, .tmp 13]) (N := 169) (L := [ownI (some mb) mc m]) Try.func54 rfl rfl rfl (by kernel_rfl) rfl (Mem.ownI1 h) ?_
  refine HW.seq (HW.region [(0, .st), (1, .st)] rfl rfl ?_)
  refine Plan.assign (v := .int _ _) rfl rfl rfl ?_
  refine Plan.assign (v := .slice _ _ _) rfl rfl rfl ?_
  refine Plan.done ?_
  refine HW.seq ?_
  refine HW.seq (HW.region [(0, .st), (1, .st), (2, .st), (3, .st), (4, .st), (5, .st), (6, .st), (7, .st)] rfl rfl ?_)
  refine Plan.move (v := .int _ _) rfl rfl rfl ?_
  refine Plan.cmp2 rfl rfl rfl rfl rfl (fun h20 => ?_) (fun h20 => ?_)
  · replace h20 := of_decide_eq_true h20
    refine Plan.move (v := .bool _) rfl rfl rfl ?_
    refine Plan.no rfl rfl ?_
    refine Plan.no rfl rfl ?_
    refine Plan.no rfl rfl ?_
    refine Plan.no rfl rfl ?_
    refine Plan.pick (v := .bool _) rfl rfl rfl rfl ?_
    refine Plan.done ?_
    refine HW.cond_true rfl ?_
    refine HW.seq (HW.region [(0, .st), (1, .st), (2, .st)] rfl rfl ?_)
    refine Plan.move (v := .slice _ _ _) rfl rfl rfl ?_
    refine Plan.assign (v := .int _ _) rfl rfl rfl ?_
    refine Plan.assign (v := .slice _ _ _) rfl rfl rfl ?_
    refine Plan.done ?_
    exact HW.ret ⟨rfl, _, [ownI (some mb) mc m], .tmp rfl (.tmp rfl .nil), .refl _, rfl, rfl⟩
  · replace h20 := of_decide_eq_false h20
    omega

theorem rdP_suf {l : List It} : ∀ {n w h : Nat} {p r : List Ct2} {u : List Nat}, rd l n w h p = some (r, u) → r <:+ p
  | 0, _, _, _, _, _, hr => by simp [rd] at hr
  | n + 1, w, h, [], r, u, hr => by simp [rd] at hr
  | n + 1, w, h, (k, x) :: p, r, u, hr => by
    rw [rd] at hr
    split at hr
    · split at hr
      · simp only [Option.some.injEq, Prod.mk.injEq] at hr
        obtain ⟨rfl, rfl⟩ := hr
        exact List.suffix_cons _ _
      · cases hr
    · split at hr
      · split at hr
        · simp only [Option.some.injEq, Prod.mk.injEq] at hr
          obtain ⟨rfl, rfl⟩ := hr
          exact List.suffix_cons _ _
        · cases hr
      · split at hr
        · split at hr
          · cases h1 : rd l n x.toNat h p with
            | none => rw [h1] at hr; cases hr
            | some q =>
              obtain ⟨r1, u1⟩ := q
              rw [h1] at hr
              simp only at hr
              cases h2 : rd l n (w - x.toNat) h r1 with
              | none => rw [h2] at hr; cases hr
              | some q =>
                obtain ⟨r2, u2⟩ := q
                rw [h2] at hr
                simp only [Option.some.injEq, Prod.mk.injEq] at hr
                obtain ⟨rfl, rfl⟩ := hr
                exact ((rdP_suf h2).trans (rdP_suf h1)).trans (List.suffix_cons _ _)
          · cases hr
        · split at hr
          · split at hr
            · cases h1 : rd l n w x.toNat p with
              | none => rw [h1] at hr; cases hr
              | some q =>
                obtain ⟨r1, u1⟩ := q
                rw [h1] at hr
                simp only at hr
                cases h2 : rd l n w (h - x.toNat) r1 with
                | none => rw [h2] at hr; cases hr
                | some q =>
                  obtain ⟨r2, u2⟩ := q
                  rw [h2] at hr
                  simp only [Option.some.injEq, Prod.mk.injEq] at hr
                  obtain ⟨rfl, rfl⟩ := hr
                  exact ((rdP_suf h2).trans (rdP_suf h1)).trans (List.suffix_cons _ _)
            · cases hr
          · cases hr

/-- what follows the first part -/
def NextR (l : List It) (mb mc D : Nat) (p : List Ct2) (m : List Int) (a1 b1 a2 b2 : Nat) : Value → List Res → Prop := fun r L =>
  ∃ (e : Int) (m' : List Int), r = .tuple #[int e, slv (some mb) l.length mc] ∧ L = [ownI (some mb) mc m'] ∧ (rdP l a1 b1 p = none → e = -1) ∧
    ∀ p1 u1, rdP l a1 b1 p = some (p1, u1) → (rdP l a2 b2 p1 = none → e = -1) ∧ ∀ p' u, rdP l a2 b2 p1 = some (p', u) → e = (D : Int) - p'.length ∧ m' = addU (addU m u1) u

theorem read_next {l : List It} {A : Option Addr} {c mb mc : Nat} {q : List Ct2} {B : Option Addr} {pc N : Nat} (ih : RReadAt l A c mb mc q B pc N) {k : Nat} {m m1 : List Int} {a1 b1 a2 b2 : Nat} {e1 : Int} (w : World) (hN : q.length - k < N) (ha : 0 < a2) (hb : 0 < b2) (ha2 : a2 ≤ 100) (hb2 : b2 ≤ 100)
    (hA : Rd encT 3 w A l) (oA : Off [mb] A l.length) (hB : Rd enc 2 w B q) (oB : Off [mb] B q.length) (hmo : (ownI (some mb) mc m1).holds w) (hml : m.length = l.length) (hm0 : ∀ x ∈ m, 0 ≤ x ∧ x + ((q.length - k : Nat) : Int) ≤ 1099511627776) (hq : q.length ≤ 20001)
    (h1 : rdP l a1 b1 (q.drop k) = none → e1 = -1) (h2 : ∀ p' u, rdP l a1 b1 (q.drop k) = some (p', u) → e1 = (q.length : Int) - p'.length ∧ m1 = addU m u) :
    Ct P 54 #[int a2, int b2, .slice A l.length c, .slice B q.length pc, int e1, slv (some mb) l.length mc] w [mb] (NextR l mb mc q.length (q.drop k) m a1 b1 a2 b2) := by
  cases h : rdP l a1 b1 (q.drop k) with
  | none =>
    obtain rfl := h1 h
    refine (read_neg l A B c mb mc q.length pc a2 b2 m1 (-1) w (by decide) hmo).mono ?_
    rintro r L ⟨rfl, rfl⟩
    exact ⟨-1, m1, rfl, rfl, fun _ => rfl, fun p1 u1 hh => by rw [h] at hh; cases hh⟩
  | some x =>
    obtain ⟨p1, u1⟩ := x
    obtain ⟨rfl, rfl⟩ := h2 p1 u1 h
    have hsuf : p1 <:+ q := (rdP_suf h).trans (List.drop_suffix _ _)
    have hle := hsuf.length_le
    have hd : q.drop (q.length - p1.length) = p1 := (List.suffix_iff_eq_drop.1 hsuf).symm
    have hlt := rdP_len h
    rw [List.length_drop] at hlt
    have hu := rdP_use h
    rw [List.length_drop] at hu
    have := ih (q.length - p1.length) (addU m u1) a2 b2 w (by omega) (by omega) ha hb ha2 hb2 hA oA hB oB hmo (by rw [addU_len]; exact hml) (addU_bd2 (fun x hx => by have := hm0 x hx; omega) (by omega))
    rw [hd] at this
    rw [show (q.length : Int) - (p1.length : Int) = ((q.length - p1.length : Nat) : Int) by omega]
    refine this.mono ?_
    rintro r L ⟨e, m', rfl, rfl, g1, g2⟩
    refine ⟨e, m', rfl, rfl, fun hh => (by rw [h] at hh; cases hh), fun p2 u2 hh => ?_⟩
    rw [h] at hh
    simp only [Option.some.injEq, Prod.mk.injEq] at hh
    obtain ⟨rfl, rfl⟩ := hh
    exact ⟨g1, g2⟩

theorem RefR_wide {l : List It} {mb mc D : Nat} {r : List Ct2} {m : List Int} {a b j : Nat} {v : Value} {L : List Res} (h1 : 1 ≤ j) (h2 : j < a) (h : NextR l mb mc D r m j b (a - j) b v L) : RefR l mb mc D ((2, (j : Int)) :: r) m a b v L := by
  obtain ⟨e, m', rfl, rfl, g1, g2⟩ := h
  refine ⟨e, m', rfl, rfl, fun hh => ?_, fun p' u hh => ?_⟩
  · rw [rdP_wide, if_pos ⟨by omega, by omega⟩, Int.toNat_natCast] at hh
    cases h3 : rdP l j b r with
    | none => exact g1 h3
    | some x =>
      obtain ⟨r1, u1⟩ := x
      rw [h3] at hh
      simp only at hh
      cases h4 : rdP l (a - j) b r1 with
      | none => exact (g2 r1 u1 h3).1 h4
      | some x => rw [h4] at hh; cases hh
  · rw [rdP_wide, if_pos ⟨by omega, by omega⟩, Int.toNat_natCast] at hh
    cases h3 : rdP l j b r with
    | none => rw [h3] at hh; cases hh
    | some x =>
      obtain ⟨r1, u1⟩ := x
      rw [h3] at hh
      simp only at hh
      cases h4 : rdP l (a - j) b r1 with
      | none => rw [h4] at hh; cases hh
      | some x =>
        obtain ⟨r2, u2⟩ := x
        rw [h4] at hh
        simp only [Option.some.injEq, Prod.mk.injEq] at hh
        obtain ⟨rfl, rfl⟩ := hh
        have := (g2 r1 u1 h3).2 r2 u2 h4
        exact ⟨this.1, by rw [addU_app]; exact this.2⟩
theorem RefR_high {l : List It} {mb mc D : Nat} {r : List Ct2} {m : List Int} {a b j : Nat} {v : Value} {L : List Res} (h1 : 1 ≤ j) (h2 : j < b) (h : NextR l mb mc D r m a j a (b - j) v L) : RefR l mb mc D ((3, (j : Int)) :: r) m a b v L := by
  obtain ⟨e, m', rfl, rfl, g1, g2⟩ := h
  refine ⟨e, m', rfl, rfl, fun hh => ?_, fun p' u hh => ?_⟩
  · rw [rdP_high, if_pos ⟨by omega, by omega⟩, Int.toNat_natCast] at hh
    cases h3 : rdP l a j r with
    | none => exact g1 h3
    | some x =>
      obtain ⟨r1, u1⟩ := x
      rw [h3] at hh
      simp only at hh
      cases h4 : rdP l a (b - j) r1 with
      | none => exact (g2 r1 u1 h3).1 h4
      | some x => rw [h4] at hh; cases hh
  · rw [rdP_high, if_pos ⟨by omega, by omega⟩, Int.toNat_natCast] at hh
    cases h3 : rdP l a j r with
    | none => rw [h3] at hh; cases hh
    | some x =>
      obtain ⟨r1, u1⟩ := x
      rw [h3] at hh
      simp only at hh
      cases h4 : rdP l a (b - j) r1 with
      | none => rw [h4] at hh; cases hh
      | some x =>
        obtain ⟨r2, u2⟩ := x
        rw [h4] at hh
        simp only [Option.some.injEq, Prod.mk.injEq] at hh
        obtain ⟨rfl, rfl⟩ := hh
        have := (g2 r1 u1 h3).2 r2 u2 h4
        exact ⟨this.1, by rw [addU_app]; exact this.2⟩

theorem rdP_none {l : List It} {w h : Nat} {t x : Int} {r : List Ct2} (h0 : ¬ (t = 0 ∧ x = 0)) (h1 : ¬ (t = 1 ∧ 0 ≤ x ∧ x < l.length ∧ fitsI (l.getD x.toNat (0, 0, 0)) w h = true)) (h2 : ¬ (t = 2 ∧ 1 ≤ x ∧ x < w)) (h3 : ¬ (t = 3 ∧ 1 ≤ x ∧ x < h)) : rdP l w h ((t, x) :: r) = none := by
  by_cases e0 : t = 0
  · subst e0; rw [rdP_waste, if_neg (fun e => h0 ⟨rfl, e⟩)]
  · by_cases e1 : t = 1
    · subst e1; rw [rdP_item, if_neg (fun e => h1 ⟨rfl, e⟩)]
    · by_cases e2 : t = 2
      · subst e2; rw [rdP_wide, if_neg (fun e => h2 ⟨rfl, e⟩)]
      · by_cases e3 : t = 3
        · subst e3; rw [rdP_high, if_neg (fun e => h3 ⟨rfl, e⟩)]
        · exact rdP_other l w h t x r e0 e1 e2 e3

theorem Sees.rdE {J : Jd} {L : List Res} {α : Type} {en : α → List Value} {k : Nat} {a : Addr} {xs : List α} (h : Rd en k J.w0 (some a) xs) (hX : Off J.X (some a) xs.length) (i : Nat) (hi : i < xs.length) {x : α} (hx : xs[i] = x) : Sees J L (a.add (i * k)) (en x) := by
  subst hx
  exact Sees.rdX h hX i hi

set_option maxRecDepth 100000 in
set_option maxHeartbeats 1000000 in
theorem rread_step (l : List It) (A : Option Addr) (c mb mc : Nat) (q : List Ct2) (B : Option Addr) (pc N : Nat) (hq : q.length ≤ 20001) (hlen : l.length ≤ 10) (ih : RReadAt l A c mb mc q B pc N) : RReadAt l A c mb mc q B pc (N + 1) := by
  intro k m a b w hk hN ha hb ha2 hb2 hA oA hB oB hmo hml hm0
  refine Ct.of_body (rs := [.tmp 12, .tmp 13]) (N := 169) (L := [ownI (some mb) mc m]) Try.func54 rfl rfl rfl (by kernel_rfl) rfl (Mem.ownI1 hmo) ?_
  refine HW.seq (HW.region [(0, .st), (1, .st)] rfl rfl ?_)
  refine Plan.assign (v := .int _ _) rfl rfl rfl ?_
  refine Plan.assign (v := .slice _ _ _) rfl rfl rfl ?_
  refine Plan.done ?_
  refine HW.seq ?_
  refine HW.seq (HW.region [(0, .st), (1, .st), (2, .st), (3, .st), (4, .st), (5, .st), (6, .st), (7, .st)] rfl rfl ?_)
  refine Plan.move (v := .int _ _) rfl rfl rfl ?_
  refine Plan.cmp2 rfl rfl rfl rfl rfl (fun h20 => ?_) (fun h20 => ?_)
  · replace h20 := of_decide_eq_true h20
    omega
  · replace h20 := of_decide_eq_false h20
    refine Plan.move (v := .bool _) rfl rfl rfl ?_
    refine Plan.move (v := .int _ _) rfl rfl rfl ?_
    refine Plan.move (v := .slice _ _ _) rfl rfl rfl ?_
    refine Plan.len rfl rfl slapiCut rfl ?_
    refine Plan.cmp2 rfl rfl rfl rfl rfl (fun h25 => ?_) (fun h25 => ?_)
    · replace h25 := of_decide_eq_true h25
      have e : rdP l a b (q.drop k) = none := by rw [List.drop_of_length_le (by omega), rdP_nil]
      refine Plan.pick (v := .bool _) rfl rfl rfl rfl ?_
      refine Plan.done ?_
      refine HW.cond_true rfl ?_
      refine HW.seq (HW.region [(0, .st), (1, .st), (2, .st)] rfl rfl ?_)
      refine Plan.move (v := .slice _ _ _) rfl rfl rfl ?_
      refine Plan.assign (v := .int _ _) rfl rfl rfl ?_
      refine Plan.assign (v := .slice _ _ _) rfl rfl rfl ?_
      refine Plan.done ?_
      exact HW.ret ⟨rfl, _, [ownI (some mb) mc m], .tmp rfl (.tmp rfl .nil), .refl _, RefR_no m e⟩
    · replace h25 := of_decide_eq_false h25
      have hlt : k < q.length := by omega
      obtain ⟨bd, rfl, _⟩ := hB k hlt
      obtain ⟨⟨t, x⟩, hqk⟩ : ∃ z, q[k] = z := ⟨_, rfl⟩
      have hdr : q.drop k = (t, x) :: q.drop (k + 1) := by rw [List.drop_eq_getElem_cons hlt, hqk]
      rw [hdr]
      refine Plan.pick (v := .bool _) rfl rfl rfl rfl ?_
      refine Plan.done ?_
      refine HW.cond_false rfl ?_
      refine HW.skip ?_
      refine HW.seq (HW.region [(0, .st), (1, .st), (2, .st), (3, .st), (4, .al), (5, .ef)] rfl rfl ?_)
      refine Plan.move (v := .slice _ _ _) rfl rfl rfl ?_
      refine Plan.move (v := .int _ _) rfl rfl rfl ?_
      refine Plan.indexN (k) rfl rfl slapiCut sizapiCut rfl rfl rfl rfl (hlt) ?_
      refine Plan.loadAgg rfl rfl aggCut sizCut rfl (Sees.rdE hB oB k hlt hqk) rfl ?_
      refine Plan.alloc rfl zerCut fun b14 => ?_
      refine Plan.storeA 0 rfl rfl hDn sizCut rfl rfl rfl rfl rfl rfl ?_
      refine Plan.done ?_
      refine HW.seq ?_
      refine HW.block ?_
      refine HW.mid (G := Bool) [32, 33, 34, 35, 36, 37, 38, 39, 40] (fun g => [(32, .bool g)]) (fun g => [Res.blk b14 #[int t, int x] 69, ownI (some mb) mc m]) (fun g => g = decide (t = 0 ∧ x = 0)) ?_ (fun g F hmid => ?_)
      · skip
        refine HW.region [(0, .st), (1, .st), (2, .st), (3, .st), (4, .st), (5, .st), (6, .st), (7, .st), (8, .st)] rfl rfl ?_
        refine Plan.fieldAddr rfl rfl fldCut0 rfl ?_
        refine Plan.load (v := .int _ _) rfl rfl aggI rfl (Sees.one 0 rfl rfl) ?_
        refine Plan.cmp2 rfl rfl rfl rfl rfl (fun h35 => ?_) (fun h35 => ?_)
        · replace h35 := of_decide_eq_true h35
          refine Plan.move (v := .bool _) rfl rfl rfl ?_
          refine Plan.fieldAddr rfl rfl fldCut1 rfl ?_
          refine Plan.load (v := .int _ _) rfl rfl aggI rfl (Sees.one 0 rfl rfl) ?_
          refine Plan.cmp2 rfl rfl rfl rfl rfl (fun h39 => ?_) (fun h39 => ?_)
          · replace h39 := of_decide_eq_true h39
            refine Plan.pick (v := .bool _) rfl rfl rfl rfl ?_
            refine Plan.assign (v := .bool _) rfl rfl rfl ?_
            refine Plan.done ?_
            exact ⟨true, (decide_eq_true (by omega)).symm, rfl, Ent.refl _ _, (by repeat (first | exact Agree.refl _ _ | exact Agree.havoc _ _ _ | refine Agree.updN ?_ | refine Agree.upd rfl ?_ | refine Agree.updL rfl ?_ | refine Agree.havoc2 rfl ?_)), ⟨rfl, trivial⟩⟩
          · replace h39 := of_decide_eq_false h39
            refine Plan.pick (v := .bool _) rfl rfl rfl rfl ?_
            refine Plan.assign (v := .bool _) rfl rfl rfl ?_
            refine Plan.done ?_
            exact ⟨false, (decide_eq_false (by omega)).symm, rfl, Ent.refl _ _, (by repeat (first | exact Agree.refl _ _ | exact Agree.havoc _ _ _ | refine Agree.updN ?_ | refine Agree.upd rfl ?_ | refine Agree.updL rfl ?_ | refine Agree.havoc2 rfl ?_)), ⟨rfl, trivial⟩⟩
        · replace h35 := of_decide_eq_false h35
          refine Plan.move (v := .bool _) rfl rfl rfl ?_
          refine Plan.no rfl rfl ?_
          refine Plan.no rfl rfl ?_
          refine Plan.no rfl rfl ?_
          refine Plan.pick (v := .bool _) rfl rfl rfl rfl ?_
          refine Plan.assign (v := .bool _) rfl rfl rfl ?_
          refine Plan.done ?_
          exact ⟨false, (decide_eq_false (by omega)).symm, rfl, Ent.refl _ _, (by repeat (first | exact Agree.refl _ _ | exact Agree.havoc _ _ _ | refine Agree.updN ?_ | refine Agree.upd rfl ?_ | refine Agree.updL rfl ?_ | refine Agree.havoc2 rfl ?_)), ⟨rfl, trivial⟩⟩
      · skip
        refine HW.cond _ rfl (fun hc => ?_) (fun hc => ?_)
        · skip
          obtain ⟨rfl, rfl⟩ := of_decide_eq_true (hmid.symm.trans hc)
          refine HW.seq (HW.region [(0, .st), (1, .st), (2, .st), (3, .st), (4, .st)] rfl rfl ?_)
          refine Plan.move (v := .int _ _) rfl rfl rfl ?_
          refine Plan.arithI rfl rfl rfl rfl rfl (by omega) ?_
          refine Plan.move (v := .slice _ _ _) rfl rfl rfl ?_
          refine Plan.assign (v := .int _ _) rfl rfl rfl ?_
          refine Plan.assign (v := .slice _ _ _) rfl rfl rfl ?_
          refine Plan.done ?_
          exact HW.ret ⟨rfl, _, [ownI (some mb) mc m], .tmp rfl (.tmp rfl .nil), .cons _ (.refl _), RefR_yes (by rw [rdP_waste, if_pos rfl]) (by rw [List.length_drop]; omega) rfl⟩
        · skip
          have n0 := of_decide_eq_false (hmid.symm.trans hc)
          refine HW.mid (G := Bool) [44, 45, 46, 47, 48, 49, 50, 51, 52, 53, 54, 55, 56, 57, 58, 59, 60, 61, 62, 63, 64, 65, 66, 67, 68, 69, 70, 71, 72, 73, 74, 75, 76, 77, 78, 79] (fun g => [(44, .bool g)]) (fun g => [Res.blk b14 #[int t, int x] 69, ownI (some mb) mc m]) (fun g => g = decide (t = 1 ∧ 0 ≤ x ∧ x < l.length ∧ fitsI (l.getD x.toNat (0, 0, 0)) a b = true)) ?_ (fun g F hmid => ?_)
          · skip
            refine HW.region [(0, .st), (1, .st), (2, .st), (3, .st), (4, .st), (5, .st), (6, .st), (7, .st), (8, .st), (9, .st), (10, .st), (11, .st), (12, .st), (13, .st), (14, .st), (15, .st), (16, .st), (17, .st), (18, .st), (19, .st), (20, .st), (21, .st), (22, .st), (23, .st), (24, .st), (25, .st), (26, .st), (27, .st), (28, .st), (29, .st), (30, .st), (31, .st), (32, .st), (33, .st), (34, .st), (35, .st)] rfl rfl ?_
            refine Plan.fieldAddr rfl rfl fldCut0 rfl ?_
            refine Plan.load (v := .int _ _) rfl rfl aggI rfl (Sees.one 0 rfl rfl) ?_
            refine Plan.cmp2 rfl rfl rfl rfl rfl (fun h47 => ?_) (fun h47 => ?_)
            · replace h47 := of_decide_eq_true h47
              refine Plan.move (v := .bool _) rfl rfl rfl ?_
              refine Plan.fieldAddr rfl rfl fldCut1 rfl ?_
              refine Plan.load (v := .int _ _) rfl rfl aggI rfl (Sees.one 0 rfl rfl) ?_
              refine Plan.cmp2 rfl rfl rfl rfl rfl (fun h51 => ?_) (fun h51 => ?_)
              · replace h51 := of_decide_eq_true h51
                refine Plan.pick (v := .bool _) rfl rfl rfl rfl ?_
                refine Plan.move (v := .bool _) rfl rfl rfl ?_
                refine Plan.fieldAddr rfl rfl fldCut1 rfl ?_
                refine Plan.load (v := .int _ _) rfl rfl aggI rfl (Sees.one 0 rfl rfl) ?_
                refine Plan.move (v := .slice _ _ _) rfl rfl rfl ?_
                refine Plan.len rfl rfl slapiItem rfl ?_
                refine Plan.cmp2 rfl rfl rfl rfl rfl (fun h58 => ?_) (fun h58 => ?_)
                · replace h58 := of_decide_eq_true h58
                  obtain ⟨j, rfl⟩ := Int.eq_ofNat_of_zero_le (show 0 ≤ x by omega)
                  have hj : j < l.length := by omega
                  obtain ⟨ad, rfl, hl1⟩ := hA j hj
                  have hgj : l.getD j (0, 0, 0) = l[j] := by simp only [List.getD_eq_getElem?_getD, List.getElem?_eq_getElem hj, Option.getD_some]
                  refine Plan.pick (v := .bool _) rfl rfl rfl rfl ?_
                  refine Plan.move (v := .bool _) rfl rfl rfl ?_
                  refine Plan.move (v := .slice _ _ _) rfl rfl rfl ?_
                  refine Plan.fieldAddr rfl rfl fldCut1 rfl ?_
                  refine Plan.load (v := .int _ _) rfl rfl aggI rfl (Sees.one 0 rfl rfl) ?_
                  refine Plan.indexN (j) rfl rfl slapiItem sizapiItem rfl rfl rfl rfl (hj) ?_
                  refine Plan.fieldAddr rfl rfl fldItem0 rfl ?_
                  refine Plan.load (v := .int _ _) rfl rfl aggI rfl (Sees.nth (Sees.rdX hA oA j hj) 0 rfl) ?_
                  refine Plan.move (v := .int _ _) rfl rfl rfl ?_
                  refine Plan.cmp2 rfl rfl rfl rfl rfl (fun h68 => ?_) (fun h68 => ?_)
                  · replace h68 := of_decide_eq_true h68
                    refine Plan.pick (v := .bool _) rfl rfl rfl rfl ?_
                    refine Plan.move (v := .bool _) rfl rfl rfl ?_
                    refine Plan.move (v := .slice _ _ _) rfl rfl rfl ?_
                    refine Plan.fieldAddr rfl rfl fldCut1 rfl ?_
                    refine Plan.load (v := .int _ _) rfl rfl aggI rfl (Sees.one 0 rfl rfl) ?_
                    refine Plan.indexN (j) rfl rfl slapiItem sizapiItem rfl rfl rfl rfl (hj) ?_
                    refine Plan.fieldAddr rfl rfl fldItem1 rfl ?_
                    refine Plan.load (v := .int _ _) rfl rfl aggI rfl (Sees.nth (Sees.rdX hA oA j hj) 1 rfl) ?_
                    refine Plan.move (v := .int _ _) rfl rfl rfl ?_
                    refine Plan.cmp2 rfl rfl rfl rfl rfl (fun h78 => ?_) (fun h78 => ?_)
                    · replace h78 := of_decide_eq_true h78
                      refine Plan.pick (v := .bool _) rfl rfl rfl rfl ?_
                      refine Plan.assign (v := .bool _) rfl rfl rfl ?_
                      refine Plan.done ?_
                      exact ⟨true, (decide_eq_true ⟨by omega, by omega, by omega, by rw [Int.toNat_natCast, hgj, fitsI, decide_eq_true h68, decide_eq_true h78]; rfl⟩).symm, rfl, Ent.refl _ _, (by repeat (first | exact Agree.refl _ _ | exact Agree.havoc _ _ _ | refine Agree.updN ?_ | refine Agree.upd rfl ?_ | refine Agree.updL rfl ?_ | refine Agree.havoc2 rfl ?_)), ⟨rfl, trivial⟩⟩
                    · replace h78 := of_decide_eq_false h78
                      refine Plan.pick (v := .bool _) rfl rfl rfl rfl ?_
                      refine Plan.assign (v := .bool _) rfl rfl rfl ?_
                      refine Plan.done ?_
                      exact ⟨false, (decide_eq_false (fun hh => by have h4 := hh.2.2.2; rw [Int.toNat_natCast, hgj, fitsI, decide_eq_false h78, Bool.and_false] at h4; cases h4)).symm, rfl, Ent.refl _ _, (by repeat (first | exact Agree.refl _ _ | exact Agree.havoc _ _ _ | refine Agree.updN ?_ | refine Agree.upd rfl ?_ | refine Agree.updL rfl ?_ | refine Agree.havoc2 rfl ?_)), ⟨rfl, trivial⟩⟩
                  · replace h68 := of_decide_eq_false h68
                    refine Plan.pick (v := .bool _) rfl rfl rfl rfl ?_
                    refine Plan.move (v := .bool _) rfl rfl rfl ?_
                    refine Plan.no rfl rfl ?_
                    refine Plan.no rfl rfl ?_
                    refine Plan.no rfl rfl ?_
                    refine Plan.no rfl rfl ?_
                    refine Plan.no rfl rfl ?_
                    refine Plan.no rfl rfl ?_
                    refine Plan.no rfl rfl ?_
                    refine Plan.no rfl rfl ?_
                    refine Plan.pick (v := .bool _) rfl rfl rfl rfl ?_
                    refine Plan.assign (v := .bool _) rfl rfl rfl ?_
                    refine Plan.done ?_
                    exact ⟨false, (decide_eq_false (fun hh => by have h4 := hh.2.2.2; rw [Int.toNat_natCast, hgj, fitsI, decide_eq_false h68, Bool.false_and] at h4; cases h4)).symm, rfl, Ent.refl _ _, (by repeat (first | exact Agree.refl _ _ | exact Agree.havoc _ _ _ | refine Agree.updN ?_ | refine Agree.upd rfl ?_ | refine Agree.updL rfl ?_ | refine Agree.havoc2 rfl ?_)), ⟨rfl, trivial⟩⟩
                · replace h58 := of_decide_eq_false h58
                  refine Plan.pick (v := .bool _) rfl rfl rfl rfl ?_
                  refine Plan.move (v := .bool _) rfl rfl rfl ?_
                  refine Plan.no rfl rfl ?_
                  refine Plan.no rfl rfl ?_
                  refine Plan.no rfl rfl ?_
                  refine Plan.no rfl rfl ?_
                  refine Plan.no rfl rfl ?_
                  refine Plan.no rfl rfl ?_
                  refine Plan.no rfl rfl ?_
                  refine Plan.no rfl rfl ?_
                  refine Plan.pick (v := .bool _) rfl rfl rfl rfl ?_
                  refine Plan.move (v := .bool _) rfl rfl rfl ?_
                  refine Plan.no rfl rfl ?_
                  refine Plan.no rfl rfl ?_
                  refine Plan.no rfl rfl ?_
                  refine Plan.no rfl rfl ?_
                  refine Plan.no rfl rfl ?_
                  refine Plan.no rfl rfl ?_
                  refine Plan.no rfl rfl ?_
                  refine Plan.no rfl rfl ?_
                  refine Plan.pick (v := .bool _) rfl rfl rfl rfl ?_
                  refine Plan.assign (v := .bool _) rfl rfl rfl ?_
                  refine Plan.done ?_
                  exact ⟨false, (decide_eq_false (fun hh => by have h4 := hh.2.2.1; omega)).symm, rfl, Ent.refl _ _, (by repeat (first | exact Agree.refl _ _ | exact Agree.havoc _ _ _ | refine Agree.updN ?_ | refine Agree.upd rfl ?_ | refine Agree.updL rfl ?_ | refine Agree.havoc2 rfl ?_)), ⟨rfl, trivial⟩⟩
              · replace h51 := of_decide_eq_false h51
                refine Plan.pick (v := .bool _) rfl rfl rfl rfl ?_
                refine Plan.move (v := .bool _) rfl rfl rfl ?_
                refine Plan.no rfl rfl ?_
                refine Plan.no rfl rfl ?_
                refine Plan.no rfl rfl ?_
                refine Plan.no rfl rfl ?_
                refine Plan.no rfl rfl ?_
                refine Plan.pick (v := .bool _) rfl rfl rfl rfl ?_
                refine Plan.move (v := .bool _) rfl rfl rfl ?_
                refine Plan.no rfl rfl ?_
                refine Plan.no rfl rfl ?_
                refine Plan.no rfl rfl ?_
                refine Plan.no rfl rfl ?_
                refine Plan.no rfl rfl ?_
                refine Plan.no rfl rfl ?_
                refine Plan.no rfl rfl ?_
                refine Plan.no rfl rfl ?_
                refine Plan.pick (v := .bool _) rfl rfl rfl rfl ?_
                refine Plan.move (v := .bool _) rfl rfl rfl ?_
                refine Plan.no rfl rfl ?_
                refine Plan.no rfl rfl ?_
                refine Plan.no rfl rfl ?_
                refine Plan.no rfl rfl ?_
                refine Plan.no rfl rfl ?_
                refine Plan.no rfl rfl ?_
                refine Plan.no rfl rfl ?_
                refine Plan.no rfl rfl ?_
                refine Plan.pick (v := .bool _) rfl rfl rfl rfl ?_
                refine Plan.assign (v := .bool _) rfl rfl rfl ?_
                refine Plan.done ?_
                exact ⟨false, (decide_eq_false (fun hh => by have h4 := hh.2.1; omega)).symm, rfl, Ent.refl _ _, (by repeat (first | exact Agree.refl _ _ | exact Agree.havoc _ _ _ | refine Agree.updN ?_ | refine Agree.upd rfl ?_ | refine Agree.updL rfl ?_ | refine Agree.havoc2 rfl ?_)), ⟨rfl, trivial⟩⟩
            · replace h47 := of_decide_eq_false h47
              refine Plan.move (v := .bool _) rfl rfl rfl ?_
              refine Plan.no rfl rfl ?_
              refine Plan.no rfl rfl ?_
              refine Plan.no rfl rfl ?_
              refine Plan.pick (v := .bool _) rfl rfl rfl rfl ?_
              refine Plan.move (v := .bool _) rfl rfl rfl ?_
              refine Plan.no rfl rfl ?_
              refine Plan.no rfl rfl ?_
              refine Plan.no rfl rfl ?_
              refine Plan.no rfl rfl ?_
              refine Plan.no rfl rfl ?_
              refine Plan.pick (v := .bool _) rfl rfl rfl rfl ?_
              refine Plan.move (v := .bool _) rfl rfl rfl ?_
              refine Plan.no rfl rfl ?_
              refine Plan.no rfl rfl ?_
              refine Plan.no rfl rfl ?_
              refine Plan.no rfl rfl ?_
              refine Plan.no rfl rfl ?_
              refine Plan.no rfl rfl ?_
              refine Plan.no rfl rfl ?_
              refine Plan.no rfl rfl ?_
              refine Plan.pick (v := .bool _) rfl rfl rfl rfl ?_
              refine Plan.move (v := .bool _) rfl rfl rfl ?_
              refine Plan.no rfl rfl ?_
              refine Plan.no rfl rfl ?_
              refine Plan.no rfl rfl ?_
              refine Plan.no rfl rfl ?_
              refine Plan.no rfl rfl ?_
              refine Plan.no rfl rfl ?_
              refine Plan.no rfl rfl ?_
              refine Plan.no rfl rfl ?_
              refine Plan.pick (v := .bool _) rfl rfl rfl rfl ?_
              refine Plan.assign (v := .bool _) rfl rfl rfl ?_
              refine Plan.done ?_
              exact ⟨false, (decide_eq_false (fun hh => by have h4 := hh.1; omega)).symm, rfl, Ent.refl _ _, (by repeat (first | exact Agree.refl _ _ | exact Agree.havoc _ _ _ | refine Agree.updN ?_ | refine Agree.upd rfl ?_ | refine Agree.updL rfl ?_ | refine Agree.havoc2 rfl ?_)), ⟨rfl, trivial⟩⟩
          · skip
            refine HW.cond _ rfl (fun hc => ?_) (fun hc => ?_)
            · skip
              obtain ⟨rfl, q2, q3, q4⟩ := of_decide_eq_true (hmid.symm.trans hc)
              obtain ⟨j, rfl⟩ := Int.eq_ofNat_of_zero_le q2
              have hj : j < l.length := by omega
              have hjm : j < m.length := by omega
              have hmj := hm0 m[j] (List.getElem_mem hjm)
              refine HW.seq (HW.region [(0, .st), (1, .st), (2, .st), (3, .st), (4, .st), (5, .st), (6, .st), (7, .ef)] rfl rfl ?_)
              refine Plan.move (v := .slice _ _ _) rfl rfl rfl ?_
              refine Plan.fieldAddr rfl rfl fldCut1 rfl ?_
              refine Plan.load (v := .int _ _) rfl rfl aggI rfl (Sees.one 0 rfl rfl) ?_
              refine Plan.indexN (j) rfl rfl slI sizI rfl rfl rfl rfl (hj) ?_
              refine Plan.load (v := .int _ _) rfl rfl aggI rfl (Sees.own 1 encI1 rfl mb rfl j hjm) ?_
              refine Plan.arithI rfl rfl rfl rfl rfl (by omega) ?_
              refine Plan.indexN (j) rfl rfl slI sizI rfl rfl rfl rfl (hj) ?_
              refine Plan.storeOwn (enc := encI) (sz := 1) ((m[j] + 1)) (j) (1) rfl rfl hDn sizI encI1 encIo rfl rfl rfl rfl rfl (hjm) ?_
              refine Plan.done ?_
              refine HW.seq (HW.region [(0, .st), (1, .st), (2, .st), (3, .st), (4, .st)] rfl rfl ?_)
              refine Plan.move (v := .int _ _) rfl rfl rfl ?_
              refine Plan.arithI rfl rfl rfl rfl rfl (by omega) ?_
              refine Plan.move (v := .slice _ _ _) rfl rfl rfl ?_
              refine Plan.assign (v := .int _ _) rfl rfl rfl ?_
              refine Plan.assign (v := .slice _ _ _) rfl rfl rfl ?_
              refine Plan.done ?_
              exact HW.ret ⟨rfl, _, [ownI (some mb) mc (m.set j (m[j] + 1))], .tmp rfl (.tmp rfl .nil), .cons _ (.refl _), RefR_yes (u := [j]) (by rw [rdP_item, if_pos ⟨q2, q3, q4⟩, Int.toNat_natCast]) (by rw [List.length_drop]; omega) (addU_one hjm).symm⟩
            · skip
              have n1 := of_decide_eq_false (hmid.symm.trans hc)
              refine HW.mid (G := Bool) [90, 91, 92, 93, 94, 95, 96, 97, 98, 99, 100, 101, 102, 103, 104] (fun g => [(90, .bool g)]) (fun g => [Res.blk b14 #[int t, int x] 69, ownI (some mb) mc m]) (fun g => g = decide (t = 2 ∧ 1 ≤ x ∧ x < a)) ?_ (fun g F hmid => ?_)
              · skip
                refine HW.region [(0, .st), (1, .st), (2, .st), (3, .st), (4, .st), (5, .st), (6, .st), (7, .st), (8, .st), (9, .st), (10, .st), (11, .st), (12, .st), (13, .st), (14, .st)] rfl rfl ?_
                refine Plan.fieldAddr rfl rfl fldCut0 rfl ?_
                refine Plan.load (v := .int _ _) rfl rfl aggI rfl (Sees.one 0 rfl rfl) ?_
                refine Plan.cmp2 rfl rfl rfl rfl rfl (fun h93 => ?_) (fun h93 => ?_)
                · replace h93 := of_decide_eq_true h93
                  refine Plan.move (v := .bool _) rfl rfl rfl ?_
                  refine Plan.fieldAddr rfl rfl fldCut1 rfl ?_
                  refine Plan.load (v := .int _ _) rfl rfl aggI rfl (Sees.one 0 rfl rfl) ?_
                  refine Plan.cmp2 rfl rfl rfl rfl rfl (fun h97 => ?_) (fun h97 => ?_)
                  · replace h97 := of_decide_eq_true h97
                    refine Plan.pick (v := .bool _) rfl rfl rfl rfl ?_
                    refine Plan.move (v := .bool _) rfl rfl rfl ?_
                    refine Plan.fieldAddr rfl rfl fldCut1 rfl ?_
                    refine Plan.load (v := .int _ _) rfl rfl aggI rfl (Sees.one 0 rfl rfl) ?_
                    refine Plan.move (v := .int _ _) rfl rfl rfl ?_
                    refine Plan.cmp2 rfl rfl rfl rfl rfl (fun h103 => ?_) (fun h103 => ?_)
                    · replace h103 := of_decide_eq_true h103
                      refine Plan.pick (v := .bool _) rfl rfl rfl rfl ?_
                      refine Plan.assign (v := .bool _) rfl rfl rfl ?_
                      refine Plan.done ?_
                      exact ⟨true, (decide_eq_true (by omega)).symm, rfl, Ent.refl _ _, (by repeat (first | exact Agree.refl _ _ | exact Agree.havoc _ _ _ | refine Agree.updN ?_ | refine Agree.upd rfl ?_ | refine Agree.updL rfl ?_ | refine Agree.havoc2 rfl ?_)), ⟨rfl, trivial⟩⟩
                    · replace h103 := of_decide_eq_false h103
                      refine Plan.pick (v := .bool _) rfl rfl rfl rfl ?_
                      refine Plan.assign (v := .bool _) rfl rfl rfl ?_
                      refine Plan.done ?_
                      exact ⟨false, (decide_eq_false (by omega)).symm, rfl, Ent.refl _ _, (by repeat (first | exact Agree.refl _ _ | exact Agree.havoc _ _ _ | refine Agree.updN ?_ | refine Agree.upd rfl ?_ | refine Agree.updL rfl ?_ | refine Agree.havoc2 rfl ?_)), ⟨rfl, trivial⟩⟩
                  · replace h97 := of_decide_eq_false h97
                    refine Plan.pick (v := .bool _) rfl rfl rfl rfl ?_
                    refine Plan.move (v := .bool _) rfl rfl rfl ?_
                    refine Plan.no rfl rfl ?_
                    refine Plan.no rfl rfl ?_
                    refine Plan.no rfl rfl ?_
                    refine Plan.no rfl rfl ?_
                    refine Plan.pick (v := .bool _) rfl rfl rfl rfl ?_
                    refine Plan.assign (v := .bool _) rfl rfl rfl ?_
                    refine Plan.done ?_
                    exact ⟨false, (decide_eq_false (by omega)).symm, rfl, Ent.refl _ _, (by repeat (first | exact Agree.refl _ _ | exact Agree.havoc _ _ _ | refine Agree.updN ?_ | refine Agree.upd rfl ?_ | refine Agree.updL rfl ?_ | refine Agree.havoc2 rfl ?_)), ⟨rfl, trivial⟩⟩
                · replace h93 := of_decide_eq_false h93
                  refine Plan.move (v := .bool _) rfl rfl rfl ?_
                  refine Plan.no rfl rfl ?_
                  refine Plan.no rfl rfl ?_
                  refine Plan.no rfl rfl ?_
                  refine Plan.pick (v := .bool _) rfl rfl rfl rfl ?_
                  refine Plan.move (v := .bool _) rfl rfl rfl ?_
                  refine Plan.no rfl rfl ?_
                  refine Plan.no rfl rfl ?_
                  refine Plan.no rfl rfl ?_
                  refine Plan.no rfl rfl ?_
                  refine Plan.pick (v := .bool _) rfl rfl rfl rfl ?_
                  refine Plan.assign (v := .bool _) rfl rfl rfl ?_
                  refine Plan.done ?_
                  exact ⟨false, (decide_eq_false (by omega)).symm, rfl, Ent.refl _ _, (by repeat (first | exact Agree.refl _ _ | exact Agree.havoc _ _ _ | refine Agree.updN ?_ | refine Agree.upd rfl ?_ | refine Agree.updL rfl ?_ | refine Agree.havoc2 rfl ?_)), ⟨rfl, trivial⟩⟩
              · skip
                refine HW.cond _ rfl (fun hc => ?_) (fun hc => ?_)
                · skip
                  obtain ⟨rfl, q2, q3⟩ := of_decide_eq_true (hmid.symm.trans hc)
                  obtain ⟨j, rfl⟩ := Int.eq_ofNat_of_zero_le (show 0 ≤ x by omega)
                  have hs : ((a : Int) - (j : Int)) = ((a - j : Nat) : Int) := by omega
                  have hk1 : ((k : Int) + 1) = ((k + 1 : Nat) : Int) := by omega
                  refine HW.seq (HW.region [(0, .st), (1, .st), (2, .st), (3, .st), (4, .st), (5, .st), (6, .st), (7, .st), (8, .ef), (9, .st), (10, .st), (11, .st), (12, .st), (13, .st)] rfl rfl ?_)
                  refine Plan.fieldAddr rfl rfl fldCut1 rfl ?_
                  refine Plan.load (v := .int _ _) rfl rfl aggI rfl (Sees.one 0 rfl rfl) ?_
                  refine Plan.move (v := .int _ _) rfl rfl rfl ?_
                  refine Plan.move (v := .slice _ _ _) rfl rfl rfl ?_
                  refine Plan.move (v := .slice _ _ _) rfl rfl rfl ?_
                  refine Plan.move (v := .int _ _) rfl rfl rfl ?_
                  refine Plan.arithI rfl rfl rfl rfl rfl (by omega) ?_
                  refine Plan.move (v := .slice _ _ _) rfl rfl rfl ?_
                  refine Plan.callJ [mb] 1 rfl rfl rfl hDn ⟨_, rfl, by simp [Res.own]⟩ (fun w hm => (by rw [hk1]; exact ih (k + 1) m j b w (by omega) (by omega) (by omega) hb (by omega) hb2 (hA.memX hm oA) oA (hB.memX hm oB) oB (hm.res (ownI (some mb) mc m) (by simp)) hml (fun y hy => by have := hm0 y hy; omega))) ?_   -- tinplate/tinplateref04.read
                  rintro v Ln ⟨e1, m1, rfl, rfl, g1, g2⟩
                  refine Plan.move (v := .tuple _) rfl rfl rfl ?_
                  refine Plan.extract (v := .int _ _) rfl rfl rfl rfl ?_
                  refine Plan.extract (v := .slice _ _ _) rfl rfl rfl rfl ?_
                  refine Plan.assign (v := .int _ _) rfl rfl rfl ?_
                  refine Plan.assign (v := .slice _ _ _) rfl rfl rfl ?_
                  refine Plan.done ?_
                  refine HW.seq (HW.region [(0, .st), (1, .st), (2, .st), (3, .st), (4, .st), (5, .st), (6, .st), (7, .st), (8, .st), (9, .ef), (10, .st), (11, .st), (12, .st), (13, .st)] rfl rfl ?_)
                  refine Plan.move (v := .int _ _) rfl rfl rfl ?_
                  refine Plan.fieldAddr rfl rfl fldCut1 rfl ?_
                  refine Plan.load (v := .int _ _) rfl rfl aggI rfl (Sees.one 1 rfl rfl) ?_
                  refine Plan.arithI rfl rfl rfl rfl rfl (by omega) ?_
                  refine Plan.move (v := .int _ _) rfl rfl rfl ?_
                  refine Plan.move (v := .slice _ _ _) rfl rfl rfl ?_
                  refine Plan.move (v := .slice _ _ _) rfl rfl rfl ?_
                  refine Plan.move (v := .int _ _) rfl rfl rfl ?_
                  refine Plan.move (v := .slice _ _ _) rfl rfl rfl ?_
                  refine Plan.callF [mb] 1 rfl rfl rfl (.inr hDn) (by simp [Res.own]) (fun w hm => (by rw [hs]; exact read_next ih (k := k + 1) (m := m) (a1 := j) (b1 := b) w (by omega) (by omega) hb (by omega) hb2 (hA.memX hm oA) oA (hB.memX hm oB) oB (hm.res (ownI (some mb) mc m1) (by simp)) hml (fun y hy => by have := hm0 y hy; omega) hq g1 g2)) ?_   -- tinplate/tinplateref04.read
                  rintro v Ln hnx
                  have hnx2 := hnx
                  obtain ⟨e2, m2, rfl, rfl, g3, g4⟩ := hnx
                  refine Plan.extract (v := .int _ _) rfl rfl rfl rfl ?_
                  refine Plan.extract (v := .slice _ _ _) rfl rfl rfl rfl ?_
                  refine Plan.assign (v := .int _ _) rfl rfl rfl ?_
                  refine Plan.assign (v := .slice _ _ _) rfl rfl rfl ?_
                  refine Plan.done ?_
                  exact HW.ret ⟨rfl, _, [ownI (some mb) mc m2], .tmp rfl (.tmp rfl .nil), .cons_cons _ (List.nil_sublist _), RefR_wide (by omega) (by omega) hnx2⟩
                · skip
                  have n2 := of_decide_eq_false (hmid.symm.trans hc)
                  refine HW.mid (G := Bool) [129, 130, 131, 132, 133, 134, 135, 136, 137, 138, 139, 140, 141, 142, 143] (fun g => [(129, .bool g)]) (fun g => [Res.blk b14 #[int t, int x] 69, ownI (some mb) mc m]) (fun g => g = decide (t = 3 ∧ 1 ≤ x ∧ x < b)) ?_ (fun g F hmid => ?_)
                  · skip
                    refine HW.region [(0, .st), (1, .st), (2, .st), (3, .st), (4, .st), (5, .st), (6, .st), (7, .st), (8, .st), (9, .st), (10, .st), (11, .st), (12, .st), (13, .st), (14, .st)] rfl rfl ?_
                    refine Plan.fieldAddr rfl rfl fldCut0 rfl ?_
                    refine Plan.load (v := .int _ _) rfl rfl aggI rfl (Sees.one 0 rfl rfl) ?_
                    refine Plan.cmp2 rfl rfl rfl rfl rfl (fun h132 => ?_) (fun h132 => ?_)
                    · replace h132 := of_decide_eq_true h132
                      refine Plan.move (v := .bool _) rfl rfl rfl ?_
                      refine Plan.fieldAddr rfl rfl fldCut1 rfl ?_
                      refine Plan.load (v := .int _ _) rfl rfl aggI rfl (Sees.one 0 rfl rfl) ?_
                      refine Plan.cmp2 rfl rfl rfl rfl rfl (fun h136 => ?_) (fun h136 => ?_)
                      · replace h136 := of_decide_eq_true h136
                        refine Plan.pick (v := .bool _) rfl rfl rfl rfl ?_
                        refine Plan.move (v := .bool _) rfl rfl rfl ?_
                        refine Plan.fieldAddr rfl rfl fldCut1 rfl ?_
                        refine Plan.load (v := .int _ _) rfl rfl aggI rfl (Sees.one 0 rfl rfl) ?_
                        refine Plan.move (v := .int _ _) rfl rfl rfl ?_
                        refine Plan.cmp2 rfl rfl rfl rfl rfl (fun h142 => ?_) (fun h142 => ?_)
                        · replace h142 := of_decide_eq_true h142
                          refine Plan.pick (v := .bool _) rfl rfl rfl rfl ?_
                          refine Plan.assign (v := .bool _) rfl rfl rfl ?_
                          refine Plan.done ?_
                          exact ⟨true, (decide_eq_true (by omega)).symm, rfl, Ent.refl _ _, (by repeat (first | exact Agree.refl _ _ | exact Agree.havoc _ _ _ | refine Agree.updN ?_ | refine Agree.upd rfl ?_ | refine Agree.updL rfl ?_ | refine Agree.havoc2 rfl ?_)), ⟨rfl, trivial⟩⟩
                        · replace h142 := of_decide_eq_false h142
                          refine Plan.pick (v := .bool _) rfl rfl rfl rfl ?_
                          refine Plan.assign (v := .bool _) rfl rfl rfl ?_
                          refine Plan.done ?_
                          exact ⟨false, (decide_eq_false (by omega)).symm, rfl, Ent.refl _ _, (by repeat (first | exact Agree.refl _ _ | exact Agree.havoc _ _ _ | refine Agree.updN ?_ | refine Agree.upd rfl ?_ | refine Agree.updL rfl ?_ | refine Agree.havoc2 rfl ?_)), ⟨rfl, trivial⟩⟩
                      · replace h136 := of_decide_eq_false h136
                        refine Plan.pick (v := .bool _) rfl rfl rfl rfl ?_
                        refine Plan.move (v := .bool _) rfl rfl rfl ?_
                        refine Plan.no rfl rfl ?_
                        refine Plan.no rfl rfl ?_
                        refine Plan.no rfl rfl ?_
                        refine Plan.no rfl rfl ?_
                        refine Plan.pick (v := .bool _) rfl rfl rfl rfl ?_
                        refine Plan.assign (v := .bool _) rfl rfl rfl ?_
                        refine Plan.done ?_
                        exact ⟨false, (decide_eq_false (by omega)).symm, rfl, Ent.refl _ _, (by repeat (first | exact Agree.refl _ _ | exact Agree.havoc _ _ _ | refine Agree.updN ?_ | refine Agree.upd rfl ?_ | refine Agree.updL rfl ?_ | refine Agree.havoc2 rfl ?_)), ⟨rfl, trivial⟩⟩
                    · replace h132 := of_decide_eq_false h132
                      refine Plan.move (v := .bool _) rfl rfl rfl ?_
                      refine Plan.no rfl rfl ?_
                      refine Plan.no rfl rfl ?_
                      refine Plan.no rfl rfl ?_
                      refine Plan.pick (v := .bool _) rfl rfl rfl rfl ?_
                      refine Plan.move (v := .bool _) rfl rfl rfl ?_
                      refine Plan.no rfl rfl ?_
                      refine Plan.no rfl rfl ?_
                      refine Plan.no rfl rfl ?_
                      refine Plan.no rfl rfl ?_
                      refine Plan.pick (v := .bool _) rfl rfl rfl rfl ?_
                      refine Plan.assign (v := .bool _) rfl rfl rfl ?_
                      refine Plan.done ?_
                      exact ⟨false, (decide_eq_false (by omega)).symm, rfl, Ent.refl _ _, (by repeat (first | exact Agree.refl _ _ | exact Agree.havoc _ _ _ | refine Agree.updN ?_ | refine Agree.upd rfl ?_ | refine Agree.updL rfl ?_ | refine Agree.havoc2 rfl ?_)), ⟨rfl, trivial⟩⟩
                  · skip
                    refine HW.cond _ rfl (fun hc => ?_) (fun hc => ?_)
                    · skip
                      obtain ⟨rfl, q2, q3⟩ := of_decide_eq_true (hmid.symm.trans hc)
                      obtain ⟨j, rfl⟩ := Int.eq_ofNat_of_zero_le (show 0 ≤ x by omega)
                      have hs : ((b : Int) - (j : Int)) = ((b - j : Nat) : Int) := by omega
                      have hk1 : ((k : Int) + 1) = ((k + 1 : Nat) : Int) := by omega
                      refine HW.seq (HW.region [(0, .st), (1, .st), (2, .st), (3, .st), (4, .st), (5, .st), (6, .st), (7, .st), (8, .ef), (9, .st), (10, .st), (11, .st), (12, .st), (13, .st)] rfl rfl ?_)
                      refine Plan.move (v := .int _ _) rfl rfl rfl ?_
                      refine Plan.fieldAddr rfl rfl fldCut1 rfl ?_
                      refine Plan.load (v := .int _ _) rfl rfl aggI rfl (Sees.one 0 rfl rfl) ?_
                      refine Plan.move (v := .slice _ _ _) rfl rfl rfl ?_
                      refine Plan.move (v := .slice _ _ _) rfl rfl rfl ?_
                      refine Plan.move (v := .int _ _) rfl rfl rfl ?_
                      refine Plan.arithI rfl rfl rfl rfl rfl (by omega) ?_
                      refine Plan.move (v := .slice _ _ _) rfl rfl rfl ?_
                      refine Plan.callJ [mb] 1 rfl rfl rfl hDn ⟨_, rfl, by simp [Res.own]⟩ (fun w hm => (by rw [hk1]; exact ih (k + 1) m a j w (by omega) (by omega) ha (by omega) ha2 (by omega) (hA.memX hm oA) oA (hB.memX hm oB) oB (hm.res (ownI (some mb) mc m) (by simp)) hml (fun y hy => by have := hm0 y hy; omega))) ?_   -- tinplate/tinplateref04.read
                      rintro v Ln ⟨e1, m1, rfl, rfl, g1, g2⟩
                      refine Plan.move (v := .tuple _) rfl rfl rfl ?_
                      refine Plan.extract (v := .int _ _) rfl rfl rfl rfl ?_
                      refine Plan.extract (v := .slice _ _ _) rfl rfl rfl rfl ?_
                      refine Plan.assign (v := .int _ _) rfl rfl rfl ?_
                      refine Plan.assign (v := .slice _ _ _) rfl rfl rfl ?_
                      refine Plan.done ?_
                      refine HW.seq (HW.region [(0, .st), (1, .st), (2, .st), (3, .st), (4, .st), (5, .st), (6, .st), (7, .st), (8, .st), (9, .ef), (10, .st), (11, .st), (12, .st), (13, .st)] rfl rfl ?_)
                      refine Plan.move (v := .int _ _) rfl rfl rfl ?_
                      refine Plan.move (v := .int _ _) rfl rfl rfl ?_
                      refine Plan.fieldAddr rfl rfl fldCut1 rfl ?_
                      refine Plan.load (v := .int _ _) rfl rfl aggI rfl (Sees.one 1 rfl rfl) ?_
                      refine Plan.arithI rfl rfl rfl rfl rfl (by omega) ?_
                      refine Plan.move (v := .slice _ _ _) rfl rfl rfl ?_
                      refine Plan.move (v := .slice _ _ _) rfl rfl rfl ?_
                      refine Plan.move (v := .int _ _) rfl rfl rfl ?_
                      refine Plan.move (v := .slice _ _ _) rfl rfl rfl ?_
                      refine Plan.callF [mb] 1 rfl rfl rfl (.inr hDn) (by simp [Res.own]) (fun w hm => (by rw [hs]; exact read_next ih (k := k + 1) (m := m) (a1 := a) (b1 := j) w (by omega) ha (by omega) ha2 (by omega) (hA.memX hm oA) oA (hB.memX hm oB) oB (hm.res (ownI (some mb) mc m1) (by simp)) hml (fun y hy => by have := hm0 y hy; omega) hq g1 g2)) ?_   -- tinplate/tinplateref04.read
                      rintro v Ln hnx
                      have hnx2 := hnx
                      obtain ⟨e2, m2, rfl, rfl, g3, g4⟩ := hnx
                      refine Plan.extract (v := .int _ _) rfl rfl rfl rfl ?_
                      refine Plan.extract (v := .slice _ _ _) rfl rfl rfl rfl ?_
                      refine Plan.assign (v := .int _ _) rfl rfl rfl ?_
                      refine Plan.assign (v := .slice _ _ _) rfl rfl rfl ?_
                      refine Plan.done ?_
                      exact HW.ret ⟨rfl, _, [ownI (some mb) mc m2], .tmp rfl (.tmp rfl .nil), .cons_cons _ (List.nil_sublist _), RefR_high (by omega) (by omega) hnx2⟩
                    · skip
                      have n3 := of_decide_eq_false (hmid.symm.trans hc)
                      refine HW.skip ?_
                      refine HW.seq (HW.region [(0, .st), (1, .st), (2, .st)] rfl rfl ?_)
                      refine Plan.move (v := .slice _ _ _) rfl rfl rfl ?_
                      refine Plan.assign (v := .int _ _) rfl rfl rfl ?_
                      refine Plan.assign (v := .slice _ _ _) rfl rfl rfl ?_
                      refine Plan.done ?_
                      exact HW.ret ⟨rfl, _, [ownI (some mb) mc m], .tmp rfl (.tmp rfl .nil), .cons _ (.refl _), RefR_no m (rdP_none n0 n1 n2 n3)⟩

theorem rread_ct (l : List It) (A : Option Addr) (c mb mc : Nat) (q : List Ct2) (B : Option Addr) (pc : Nat) (hq : q.length ≤ 20001) (hlen : l.length ≤ 10) : ∀ N, RReadAt l A c mb mc q B pc N
  | 0 => fun k m a b w h1 h2 => absurd h2 (Nat.not_lt_zero _)
  | N + 1 => rread_step l A c mb mc q B pc N hq hlen (rread_ct l A c mb mc q B pc hq hlen N)

end Go.Proofs.Ytjmklbkcpjmcaaa.V
