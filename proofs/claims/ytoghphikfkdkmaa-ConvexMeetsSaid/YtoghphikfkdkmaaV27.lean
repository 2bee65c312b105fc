/-
  The specification's sums, overlap, parts, Overlap, Separate, Inside (package tinplateref03).
-/
import Derived.Test.YtoghphikfkdkmaaV26
namespace Go.Proofs.Ytoghphikfkdkmaa.V
open Go Go.RowKit Go.Proofs.Ytoghphikfkdkmaa.H
set_option linter.unusedVariables false
set_option linter.unusedSimpArgs false

theorem sums_take {p q : List Pt} {k : Nat} (h : k < p.length) : sumsF (p.take (k + 1)) q = sumsF (p.take k) q ++ q.map (vAdd p[k]) := by
  unfold sumsF
  rw [List.take_add_one, List.getElem?_eq_getElem h, List.flatMap_append]
  simp

theorem rsums_ct (A1 A2 : Option Addr) (p q S : List Pt) (n1 c1 n2 c2 : Nat) (w : World) (hp : Rd enc 2 w A1 p) (hq : Rd enc 2 w A2 q) (hn1 : n1 = p.length) (hn2 : n2 = q.length) (hl1 : 3 ≤ p.length) (hl2 : 3 ≤ q.length) (hl3 : p.length ≤ 32) (hl4 : q.length ≤ 32)
    (hb1 : ∀ v ∈ p, Bd2 1000 v.1 v.2) (hb2 : ∀ v ∈ q, Bd2 1000 v.1 v.2) (hH : HullOf (sumsF p q) S) (hSl : S.length ≤ p.length + q.length) :
    Ct P 66 #[.slice A1 n1 c1, .slice A2 n2 c2] w [] (fun r L => ∃ b c', r = slv (some b) S.length c' ∧ L = [ownV (some b) c' S]) := by
  subst hn1 hn2
  have hmul : ∀ k, k ≤ 32 → k * q.length ≤ 1024 := fun k hk => by
    have := Nat.mul_le_mul hk hl4; omega
  have hsl : ∀ k, k ≤ p.length → (sumsF (p.take k) q).length = k * q.length := fun k hk => by rw [sums_len, List.length_take, Nat.min_eq_left hk]
  have hfull : p.length + q.length ≤ p.length * q.length := by
    have h1 : 3 * q.length ≤ p.length * q.length := Nat.mul_le_mul_right _ hl1
    have h2 : p.length * 3 ≤ p.length * q.length := Nat.mul_le_mul_left _ hl2
    omega
  refine Ct.of_body (rs := [.tmp 4]) (N := 23) (L := []) Try.func66 rfl rfl rfl (by kernel_rfl) rfl (Mem.refl w) ?_
  refine HW.seq (HW.region [(0, .st)] rfl rfl ?_)
  refine Plan.assign (v := .slice _ _ _) rfl rfl rfl ?_
  refine Plan.done ?_
  refine HW.seq (HW.region [(0, .st)] rfl rfl ?_)
  refine Plan.assign (v := .slice _ _ _) rfl rfl rfl ?_
  refine Plan.done ?_
  refine HW.seq ?_
  refine HW.seq (HW.region [(0, .st)] rfl rfl ?_)
  refine Plan.assign (v := .int _ _) rfl rfl rfl ?_
  refine Plan.done ?_
  refine HW.block ?_
  refine HW.loopL (G := MpG) [5, 6, 7, 8, 9, 10, 11, 12, 13, 14, 15, 16, 17, 18, 19, 20] (fun g => [(6, int g.k), (5, slv g.o (sumsF (p.take g.k) q).length g.c)]) (fun g => [ownV g.o g.c (sumsF (p.take g.k) q)]) (fun g => g.k ≤ p.length) (fun g => p.length - g.k) (⟨0, none, 0⟩) ⟨rfl, rfl, trivial⟩ (fun w' hm => hm.addNil) (Nat.zero_le _) (fun g F hok => ?_)
  obtain ⟨k, o, c3⟩ := g
  simp only at hok
  dsimp only
  have hk1 := hsl k hok
  have hk2 := hmul k (by omega)
  refine HW.seq ?_
  refine HW.seq (HW.region [(0, .st), (1, .st), (2, .st), (3, .st)] rfl rfl ?_)
  refine Plan.move (v := .int _ _) rfl rfl rfl ?_
  refine Plan.move (v := .slice _ _ _) rfl rfl rfl ?_
  refine Plan.len rfl rfl slV rfl ?_
  refine Plan.cmp2 rfl rfl rfl rfl rfl (fun h10 => ?_) (fun h10 => ?_)
  · replace h10 := of_decide_eq_true h10
    have hlt : k < p.length := by omega
    obtain ⟨ad, rfl, hl1'⟩ := hp k hlt
    have e := sums_take (q := q) hlt
    refine Plan.done ?_
    refine HW.cond_true rfl ?_
    refine HW.skip ?_
    refine HW.seq ?_
    refine HW.block ?_
    refine HW.region [(0, .st), (1, .st), (2, .st), (3, .st), (4, .st), (5, .st), (6, .ef), (7, .ef), (8, .st)] rfl rfl ?_
    refine Plan.move (v := .slice _ _ _) rfl rfl rfl ?_
    refine Plan.move (v := .slice _ _ _) rfl rfl rfl ?_
    refine Plan.move (v := .slice _ _ _) rfl rfl rfl ?_
    refine Plan.move (v := .int _ _) rfl rfl rfl ?_
    refine Plan.indexN (k) rfl rfl slV sizV rfl rfl rfl rfl (hlt) ?_
    refine Plan.loadAgg rfl rfl aggV sizV rfl (Sees.old hl1' (by simp)) rfl ?_
    refine Plan.callF [] 0 rfl rfl rfl (.inl rfl) (by simp) (fun w hm => rmoved_ct A2 q _ _ c2 w (hq.mem hm) rfl (by omega) (by omega) (fun v hv => (hb2 v hv).mono (by omega)) ((hb1 _ (List.getElem_mem hlt)).mono (by omega))) ?_   -- tinplate/tinplateref03.moved
    rintro v Ln ⟨o2, d2, b2, rfl, rfl, rfl⟩
    refine Plan.append (enc := enc) (sz := 2) (ys := q.map (vAdd p[k])) (1) rfl rfl hDn slV infV rfl (by decide) enc2 enc1 rfl rfl rfl rfl (by simp) (Sees.ownAll 0 rfl b2 rfl) (by rw [List.length_map]; omega) (by rw [List.length_map]; omega) fun o20 c20 => ?_
    refine Plan.assign (v := .slice _ _ _) rfl rfl rfl ?_
    refine Plan.done ?_
    refine HW.region [(0, .st), (1, .st), (2, .st)] rfl rfl ?_
    refine Plan.move (v := .int _ _) rfl rfl rfl ?_
    refine Plan.arithI rfl rfl rfl rfl rfl (by omega) ?_
    refine Plan.assign (v := .int _ _) rfl rfl rfl ?_
    refine Plan.done ?_
    exact ⟨⟨k + 1, o20, c20⟩, by simp only; omega, hlt, rfl, (fun w' hm => by
        show Mem _ _ [ownV o20 c20 (sumsF (p.take (k + 1)) q)] w'
        rw [e]
        exact hm.sub (.cons _ (.refl _))), (by repeat (first | exact Agree.havoc _ _ _ | refine Agree.updN ?_ | refine Agree.upd rfl ?_ | refine Agree.updL rfl ?_ | refine Agree.havoc2 rfl ?_)), ⟨rfl, slv_eq (by rw [e, List.length_append]), trivial⟩⟩
  · replace h10 := of_decide_eq_false h10
    have hke : k = p.length := by omega
    rw [hke, List.take_length]
    rw [hke, List.take_length] at hk1
    refine Plan.done ?_
    refine HW.cond_false rfl ?_
    refine HW.exit ?_
    refine HW.seq (HW.region [(0, .st), (1, .ef), (2, .st)] rfl rfl ?_)
    refine Plan.move (v := .slice _ _ _) rfl rfl rfl ?_
    refine Plan.callF [] 0 rfl rfl rfl (.inl rfl) (by simp) (fun w hm => wrap_ct (at0 o) (sumsF p q) S _ c3 w (Res.own_rd enc2 (hm.res _ List.mem_cons_self)) rfl (by have := hmul p.length hl3; omega) (fun v hv => by
        obtain ⟨a, ha, b, hb, rfl⟩ := mem_sums.1 hv
        obtain ⟨⟨_, _⟩, ⟨_, _⟩⟩ := hb1 a ha
        obtain ⟨⟨_, _⟩, ⟨_, _⟩⟩ := hb2 b hb
        unfold ad
        exact ⟨⟨by simp only; omega, by simp only; omega⟩, ⟨by simp only; omega, by simp only; omega⟩⟩) hH (by omega)) ?_   -- tinplate/tinplateref03.wrap
    rintro v Ln ⟨b, d, rfl, rfl⟩
    refine Plan.assign (v := .slice _ _ _) rfl rfl rfl ?_
    refine Plan.done ?_
    exact HW.ret ⟨rfl, _, [ownV (some b) d S], .tmp rfl .nil, .cons_cons _ (List.nil_sublist _), b, d, rfl, rfl⟩

theorem Vneg_bd {q : List Pt} (h : ∀ v ∈ q, Bd2 1000 v.1 v.2) : ∀ v ∈ q.map vNeg, Bd2 1000 v.1 v.2 := fun v hv => by
  obtain ⟨u, hu, rfl⟩ := List.mem_map.1 hv
  obtain ⟨⟨_, _⟩, ⟨_, _⟩⟩ := h u hu
  unfold vNeg
  exact ⟨⟨by simp only; omega, by simp only; omega⟩, ⟨by simp only; omega, by simp only; omega⟩⟩

theorem roverlap_ct (A1 A2 : Option Addr) (p q : List Pt) (n1 c1 n2 c2 : Nat) (w : World) (hp : Rd enc 2 w A1 p) (hq : Rd enc 2 w A2 q) (hn1 : n1 = p.length) (hn2 : n2 = q.length) (hv1 : validF p = true) (hv2 : validF q = true) :
    Ct P 47 #[.slice A1 n1 c1, .slice A2 n2 c2] w [] (fun r L => r = .bool (!(partedF p q).2) ∧ L = []) := by
  subst hn1 hn2
  obtain ⟨u1, u2, u3, u4⟩ := validF_spec hv1
  obtain ⟨v1, v2, v3, v4⟩ := validF_spec hv2
  obtain ⟨hH, hz⟩ := overlap_zero hv1 hv2
  obtain ⟨hm', vo⟩ := flip_spec hv2
  have hSl : (sumF p (hullF (q.map vNeg))).length ≤ p.length + (q.map vNeg).length := by
    have := (sum_spec (valid_sr hv1) (valid_sr vo)).len
    rw [hm'.len] at this
    simpa using this
  have hSb : ∀ v ∈ sumF p (hullF (q.map vNeg)), Bd2 100000 v.1 v.2 := fun v hv => by
    obtain ⟨a, ha, b, hb, rfl⟩ := mem_sums.1 (hH.sub v hv)
    obtain ⟨⟨_, _⟩, ⟨_, _⟩⟩ := u3 a ha
    obtain ⟨⟨_, _⟩, ⟨_, _⟩⟩ := Vneg_bd v3 b hb
    unfold ad
    exact ⟨⟨by simp only; omega, by simp only; omega⟩, ⟨by simp only; omega, by simp only; omega⟩⟩
  generalize sumF p (hullF (q.map vNeg)) = S at *
  refine Ct.of_body (rs := [.tmp 4]) (N := 12) (L := []) Try.func47 rfl rfl rfl (by kernel_rfl) rfl (Mem.refl w) ?_
  refine HW.seq (HW.region [(0, .st)] rfl rfl ?_)
  refine Plan.assign (v := .bool _) rfl rfl rfl ?_
  refine Plan.done ?_
  refine HW.seq (HW.region [(0, .st), (1, .st), (2, .ef), (3, .ef), (4, .st), (5, .ef), (6, .st), (7, .st)] rfl rfl ?_)
  refine Plan.move (v := .slice _ _ _) rfl rfl rfl ?_
  refine Plan.move (v := .slice _ _ _) rfl rfl rfl ?_
  refine Plan.callF [] 0 rfl rfl rfl (.inl rfl) (by simp) (fun w hm => rflipped_ct A2 q _ c2 w (hq.mem hm) rfl (by omega) (fun v hv => (v3 v hv).mono (by omega))) ?_   -- tinplate/tinplateref03.flipped
  rintro v Ln ⟨o1, d1, rfl, rfl⟩
  refine Plan.callF [] 0 rfl rfl rfl (.inl rfl) (by simp) (fun w hm => rsums_ct A1 (at0 o1) p (q.map vNeg) S _ c1 _ d1 w (hp.mem hm) (Res.own_rd enc2 (hm.res _ List.mem_cons_self)) rfl (by simp) u1 (by simpa using v1) u2 (by simpa using v2) u3 (Vneg_bd v3) hH hSl) ?_   -- tinplate/tinplateref03.sums
  rintro v Ln ⟨b2, d2, rfl, rfl⟩
  refine Plan.build rfl rfl rfl (bld0) ?_
  refine Plan.callF [] 0 rfl rfl rfl (.inl rfl) (by simp) (fun w hm => rplace_ct (at0 (some b2)) S (0, 0) _ d2 w (Res.own_rd enc2 (hm.res _ List.mem_cons_self)) rfl (by rw [List.length_map] at hSl; omega) hSb ⟨⟨by decide, by decide⟩, ⟨by decide, by decide⟩⟩) ?_   -- tinplate/tinplateref03.place
  rintro v Ln ⟨rfl, rfl⟩
  refine Plan.cmp2 rfl rfl rfl rfl rfl (fun h11 => ?_) (fun h11 => ?_)
  · replace h11 := of_decide_eq_true h11
    refine Plan.assign (v := .bool _) rfl rfl rfl ?_
    refine Plan.done ?_
    exact HW.ret ⟨rfl, _, [], .tmp rfl .nil, List.nil_sublist _, (by rw [hz.1 h11]; rfl), rfl⟩
  · replace h11 := of_decide_eq_false h11
    have hpt : (partedF p q).2 = true := by cases hx : (partedF p q).2 with | true => rfl | false => exact absurd (hz.2 hx) h11
    refine Plan.assign (v := .bool _) rfl rfl rfl ?_
    refine Plan.done ?_
    exact HW.ret ⟨rfl, _, [], .tmp rfl .nil, List.nil_sublist _, (by rw [hpt]; rfl), rfl⟩

set_option maxRecDepth 10000 in
set_option maxHeartbeats 2000000 in
theorem parts_ct (A1 A2 : Option Addr) (p q : List Pt) (d : Pt) (n1 c1 n2 c2 : Nat) (w : World) (hp : Rd enc 2 w A1 p) (hq : Rd enc 2 w A2 q) (hn1 : n1 = p.length) (hn2 : n2 = q.length) (h1 : 0 < p.length) (h2 : 0 < q.length) (hl1 : p.length ≤ 1000000) (hl2 : q.length ≤ 1000000)
    (bp : ∀ v ∈ p, Bd2 100000 v.1 v.2) (bq : ∀ v ∈ q, Bd2 100000 v.1 v.2) (kd : Bd2 100000 d.1 d.2) :
    Ct P 48 #[.slice A1 n1 c1, .slice A2 n2 c2, vc d] w [] (fun r L => r = .bool (sepB p q d) ∧ L = []) := by
  subst hn1 hn2
  have hs := sepB_iff h1 h2 d
  refine Ct.of_body (rs := [.tmp 6]) (N := 56) (L := []) Try.func48 rfl rfl rfl (by kernel_rfl) rfl (Mem.refl w) ?_
  refine HW.seq (HW.region [(0, .ef), (1, .st)] rfl rfl ?_)
  refine Plan.boxA rfl rfl rfl fun b5 => ?_
  refine Plan.assign (v := .bool _) rfl rfl rfl ?_
  refine Plan.done ?_
  refine HW.seq ?_
  refine HW.seq (HW.region [(0, .st)] rfl rfl ?_)
  refine Plan.assign (v := .int _ _) rfl rfl rfl ?_
  refine Plan.done ?_
  refine HW.block ?_
  refine HW.loopC (G := Nat) [6, 7, 8, 9, 10, 11, 12, 13, 14, 15, 16, 17, 18, 19, 20, 21, 22, 23, 24, 25, 26, 27, 28, 29, 30, 31, 32, 33, 34, 35, 36, 37, 38, 39, 40, 41, 42, 43, 44, 45, 46, 47, 48, 49, 50, 51, 52, 53, 54, 55] (fun g => [(7, int g)]) (fun g => g ≤ p.length ∧ ∀ a, a < g → ∀ u ∈ q, dotP d (nth p a) ≤ dotP d u) (fun g => p.length - g) (0) ⟨rfl, trivial⟩ (⟨Nat.zero_le _, fun a ha => absurd ha (Nat.not_lt_zero _)⟩) (fun g F hok => ?_)
  obtain ⟨i, rfl⟩ : ∃ i, i = g := ⟨g, rfl⟩
  obtain ⟨hi, hall⟩ := hok
  refine HW.seq ?_
  refine HW.seq (HW.region [(0, .st), (1, .st), (2, .st), (3, .st)] rfl rfl ?_)
  refine Plan.move (v := .int _ _) rfl rfl rfl ?_
  refine Plan.move (v := .slice _ _ _) rfl rfl rfl ?_
  refine Plan.len rfl rfl slV rfl ?_
  refine Plan.cmp2 rfl rfl rfl rfl rfl (fun h12 => ?_) (fun h12 => ?_)
  · replace h12 := of_decide_eq_true h12
    have hlt : i < p.length := by omega
    obtain ⟨ad, rfl, hl1'⟩ := hp i hlt
    refine Plan.done ?_
    refine HW.cond_true rfl ?_
    refine HW.skip ?_
    refine HW.seq ?_
    refine HW.block ?_
    refine HW.seq (HW.region [(0, .st)] rfl rfl ?_)
    refine Plan.assign (v := .int _ _) rfl rfl rfl ?_
    refine Plan.done ?_
    refine HW.block ?_
    refine HW.loopC (G := Nat) [6, 8, 15, 16, 17, 18, 19, 20, 21, 22, 23, 24, 25, 26, 27, 28, 29, 30, 31, 32, 33, 34, 35, 36, 37, 38, 39, 40, 41, 42, 43, 44, 45, 46, 47, 48, 49, 50, 51, 52, 53, 54, 55] (fun g => [(8, int g)]) (fun g => g ≤ q.length ∧ ∀ b, b < g → dotP d (nth p i) ≤ dotP d (nth q b)) (fun g => q.length - g) (0) ⟨rfl, trivial⟩ (⟨Nat.zero_le _, fun a ha => absurd ha (Nat.not_lt_zero _)⟩) (fun g F hok => ?_)
    obtain ⟨j, rfl⟩ : ∃ j, j = g := ⟨g, rfl⟩
    obtain ⟨hj, hin⟩ := hok
    refine HW.seq ?_
    refine HW.seq (HW.region [(0, .st), (1, .st), (2, .st), (3, .st)] rfl rfl ?_)
    refine Plan.move (v := .int _ _) rfl rfl rfl ?_
    refine Plan.move (v := .slice _ _ _) rfl rfl rfl ?_
    refine Plan.len rfl rfl slV rfl ?_
    refine Plan.cmp2 rfl rfl rfl rfl rfl (fun h18 => ?_) (fun h18 => ?_)
    · replace h18 := of_decide_eq_true h18
      have hlt2 : j < q.length := by omega
      obtain ⟨ad2, rfl, hl2'⟩ := hq j hlt2
      have pb := bp _ (List.getElem_mem hlt)
      have qb := bq _ (List.getElem_mem hlt2)
      have m1 := mul_bd kd.1 pb.1
      have m2 := mul_bd kd.2 pb.2
      have m3 := mul_bd kd.1 qb.1
      have m4 := mul_bd kd.2 qb.2
      have dd1 : dotP d (nth p i) = d.1 * p[i].1 + d.2 * p[i].2 := by rw [nth_get hlt]; rfl
      have dd2 : dotP d (nth q j) = d.1 * q[j].1 + d.2 * q[j].2 := by rw [nth_get hlt2]; rfl
      refine Plan.done ?_
      refine HW.cond_true rfl ?_
      refine HW.skip ?_
      refine HW.seq ?_
      refine HW.block ?_
      refine HW.seq (HW.region_any [] [(0, .st), (1, .st), (2, .st), (3, .st), (4, .st), (5, .st), (6, .st), (7, .st), (8, .st), (9, .st), (10, .st), (11, .st), (12, .st), (13, .st), (14, .st), (15, .st), (16, .st), (17, .st), (18, .st), (19, .st), (20, .st), (21, .st), (22, .st), (23, .st), (24, .st), (25, .st), (26, .st), (27, .st), (28, .st), (29, .st), (30, .st), (31, .st), (32, .st), (33, .st), (34, .st)] mix (by kernel_rfl) (fun _ _ _ _ _ h => h) (zeros rfl) ?_)
      refine Plan.fieldAddr rfl rfl fldV0 rfl ?_
      refine Plan.load (v := .int _ _) rfl rfl aggI rfl (Sees.one 0 rfl rfl) ?_
      refine Plan.move (v := .slice _ _ _) rfl rfl rfl ?_
      refine Plan.move (v := .int _ _) rfl rfl rfl ?_
      refine Plan.indexN (i) rfl rfl slV sizV rfl rfl rfl rfl (hlt) ?_
      refine Plan.fieldAddr rfl rfl fldV0 rfl ?_
      refine Plan.load (v := .int _ _) rfl rfl aggI rfl (Sees.fx (Sees.old hl1' (by simp))) ?_
      refine Plan.arithI rfl rfl rfl rfl rfl (by omega) ?_
      refine Plan.fieldAddr rfl rfl fldV1 rfl ?_
      refine Plan.load (v := .int _ _) rfl rfl aggI rfl (Sees.one 0 rfl rfl) ?_
      refine Plan.move (v := .slice _ _ _) rfl rfl rfl ?_
      refine Plan.move (v := .int _ _) rfl rfl rfl ?_
      refine Plan.indexN (i) rfl rfl slV sizV rfl rfl rfl rfl (hlt) ?_
      refine Plan.fieldAddr rfl rfl fldV1 rfl ?_
      refine Plan.load (v := .int _ _) rfl rfl aggI rfl (Sees.fy (Sees.old hl1' (by simp))) ?_
      refine Plan.arithI rfl rfl rfl rfl rfl (by omega) ?_
      refine Plan.arithI rfl rfl rfl rfl rfl (by omega) ?_
      refine Plan.fieldAddr rfl rfl fldV0 rfl ?_
      refine Plan.load (v := .int _ _) rfl rfl aggI rfl (Sees.one 0 rfl rfl) ?_
      refine Plan.move (v := .slice _ _ _) rfl rfl rfl ?_
      refine Plan.move (v := .int _ _) rfl rfl rfl ?_
      refine Plan.indexN (j) rfl rfl slV sizV rfl rfl rfl rfl (hlt2) ?_
      refine Plan.fieldAddr rfl rfl fldV0 rfl ?_
      refine Plan.load (v := .int _ _) rfl rfl aggI rfl (Sees.fx (Sees.old hl2' (by simp))) ?_
      refine Plan.arithI rfl rfl rfl rfl rfl (by omega) ?_
      refine Plan.fieldAddr rfl rfl fldV1 rfl ?_
      refine Plan.load (v := .int _ _) rfl rfl aggI rfl (Sees.one 0 rfl rfl) ?_
      refine Plan.move (v := .slice _ _ _) rfl rfl rfl ?_
      refine Plan.move (v := .int _ _) rfl rfl rfl ?_
      refine Plan.indexN (j) rfl rfl slV sizV rfl rfl rfl rfl (hlt2) ?_
      refine Plan.fieldAddr rfl rfl fldV1 rfl ?_
      refine Plan.load (v := .int _ _) rfl rfl aggI rfl (Sees.fy (Sees.old hl2' (by simp))) ?_
      refine Plan.arithI rfl rfl rfl rfl rfl (by omega) ?_
      refine Plan.arithI rfl rfl rfl rfl rfl (by omega) ?_
      refine Plan.cmp2 rfl rfl rfl rfl rfl (fun h55 => ?_) (fun h55 => ?_)
      · replace h55 := of_decide_eq_true h55
        have hf : sepB p q d = false := by
          cases hx : sepB p q d with
          | false => rfl
          | true =>
            have := hs.1 hx _ (nth_mem hlt) _ (nth_mem hlt2)
            omega
        refine Plan.done ?_
        refine HW.cond_true rfl ?_
        refine HW.seq (HW.region [(0, .st)] rfl rfl ?_)
        refine Plan.assign (v := .bool _) rfl rfl rfl ?_
        refine Plan.done ?_
        exact HW.ret ⟨rfl, _, [], .tmp rfl .nil, List.nil_sublist _, (by rw [hf]; rfl), rfl⟩
      · replace h55 := of_decide_eq_false h55
        refine Plan.done ?_
        refine HW.cond_false rfl ?_
        refine HW.skip ?_
        refine HW.region [(0, .st), (1, .st), (2, .st)] rfl rfl ?_
        refine Plan.move (v := .int _ _) rfl rfl rfl ?_
        refine Plan.arithI rfl rfl rfl rfl rfl (by omega) ?_
        refine Plan.assign (v := .int _ _) rfl rfl rfl ?_
        refine Plan.done ?_
        exact ⟨j + 1, by simp only; omega, ⟨hlt2, fun b hb => by rcases Nat.lt_succ_iff_lt_or_eq.1 hb with h | rfl; exact hin b h; omega⟩, rfl, Ent.sub (.refl _), (by repeat (first | exact Agree.havoc _ _ _ | refine Agree.updN ?_ | refine Agree.upd rfl ?_ | refine Agree.updL rfl ?_ | refine Agree.havoc2 rfl ?_)), ⟨rfl, trivial⟩⟩
    · replace h18 := of_decide_eq_false h18
      refine Plan.done ?_
      refine HW.cond_false rfl ?_
      refine HW.exit ?_
      refine HW.region [(0, .st), (1, .st), (2, .st)] rfl rfl ?_
      refine Plan.move (v := .int _ _) rfl rfl rfl ?_
      refine Plan.arithI rfl rfl rfl rfl rfl (by omega) ?_
      refine Plan.assign (v := .int _ _) rfl rfl rfl ?_
      refine Plan.done ?_
      exact ⟨i + 1, by simp only; omega, ⟨hlt, fun a ha u hu => by
            rcases Nat.lt_succ_iff_lt_or_eq.1 ha with h | rfl
            · exact hall a h u hu
            · obtain ⟨b, hb, rfl⟩ := List.getElem_of_mem hu
              have := hin b (by omega)
              rw [nth_get hb] at this
              exact this⟩, rfl, Ent.sub (.refl _), (by repeat (first | exact Agree.havoc _ _ _ | refine Agree.updN ?_ | refine Agree.upd rfl ?_ | refine Agree.updL rfl ?_ | refine Agree.havoc2 rfl ?_)), ⟨rfl, trivial⟩⟩
  · replace h12 := of_decide_eq_false h12
    refine Plan.done ?_
    refine HW.cond_false rfl ?_
    refine HW.exit ?_
    refine HW.seq (HW.region [(0, .st)] rfl rfl ?_)
    refine Plan.assign (v := .bool _) rfl rfl rfl ?_
    refine Plan.done ?_
    have hf : sepB p q d = true := hs.2 fun v hv u hu => by
      obtain ⟨a, ha, rfl⟩ := List.getElem_of_mem hv
      have := hall a (by omega) u hu
      rw [nth_get ha] at this
      exact this
    exact HW.ret ⟨rfl, _, [], .tmp rfl .nil, List.nil_sublist _, (by rw [hf]; rfl), rfl⟩

theorem rOverlap_ct (A1 A2 : Option Addr) (p q : List Pt) (n1 c1 n2 c2 : Nat) (w : World) (hp : Rd enc 2 w A1 p) (hq : Rd enc 2 w A2 q) (hn1 : n1 = p.length) (hn2 : n2 = q.length) :
    Ct P 23 #[.slice A1 n1 c1, .slice A2 n2 c2] w [] (fun r L => r = .tuple #[.bool (OverlapF p q).1, int (OverlapF p q).2] ∧ L = []) := by
  subst hn1 hn2
  refine Ct.of_body (rs := [.tmp 4, .tmp 5]) (N := 17) (L := []) Try.func23 rfl rfl rfl (by kernel_rfl) rfl (Mem.refl w) ?_
  refine HW.seq (HW.region [(0, .st), (1, .st)] rfl rfl ?_)
  refine Plan.assign (v := .bool _) rfl rfl rfl ?_
  refine Plan.assign (v := .int _ _) rfl rfl rfl ?_
  refine Plan.done ?_
  refine HW.seq ?_
  refine HW.seq (HW.region [(0, .st), (1, .ef), (2, .st), (3, .st), (4, .st), (5, .ef), (6, .st), (7, .st)] rfl rfl ?_)
  refine Plan.move (v := .slice _ _ _) rfl rfl rfl ?_
  refine Plan.callF [] 0 rfl rfl rfl (.inl rfl) (by simp) (fun w hm => rvalid_ct A1 p _ c1 w (hp.mem hm) rfl) ?_   -- tinplate/tinplateref03.Valid
  rintro v Ln ⟨rfl, rfl⟩
  refine Plan.splitB (fun h7 => ?_) (fun h7 => ?_)
  · skip
    refine Plan.not rfl rfl rfl ?_
    refine Plan.move (v := .bool _) rfl rfl rfl ?_
    refine Plan.move (v := .slice _ _ _) rfl rfl rfl ?_
    refine Plan.callF [] 0 rfl rfl rfl (.inl rfl) (by simp) (fun w hm => rvalid_ct A2 q _ c2 w (hq.mem hm) rfl) ?_   -- tinplate/tinplateref03.Valid
    rintro v Ln ⟨rfl, rfl⟩
    refine Plan.splitB (fun h11 => ?_) (fun h11 => ?_)
    · skip
      refine Plan.not rfl rfl rfl ?_
      refine Plan.pick (v := .bool _) rfl rfl rfl rfl ?_
      refine Plan.done ?_
      refine HW.cond_false rfl ?_
      refine HW.skip ?_
      refine HW.seq (HW.region [(0, .st), (1, .st), (2, .ef), (3, .st), (4, .st)] rfl rfl ?_)
      refine Plan.move (v := .slice _ _ _) rfl rfl rfl ?_
      refine Plan.move (v := .slice _ _ _) rfl rfl rfl ?_
      refine Plan.callF [] 0 rfl rfl rfl (.inl rfl) (by simp) (fun w hm => roverlap_ct A1 A2 p q _ c1 _ c2 w (hp.mem hm) (hq.mem hm) rfl rfl h7 h11) ?_   -- tinplate/tinplateref03.overlap
      rintro v Ln ⟨rfl, rfl⟩
      refine Plan.splitB (fun h16 => ?_) (fun h16 => ?_)
      · skip
        refine Plan.assign (v := .bool _) rfl rfl rfl ?_
        refine Plan.assign (v := .int _ _) rfl rfl rfl ?_
        refine Plan.done ?_
        exact HW.ret ⟨rfl, _, [], .tmp rfl (.tmp rfl .nil), List.nil_sublist _, (by unfold OverlapF; simp [*]; first | rfl | skip), rfl⟩
      · skip
        refine Plan.assign (v := .bool _) rfl rfl rfl ?_
        refine Plan.assign (v := .int _ _) rfl rfl rfl ?_
        refine Plan.done ?_
        exact HW.ret ⟨rfl, _, [], .tmp rfl (.tmp rfl .nil), List.nil_sublist _, (by unfold OverlapF; simp [*]; first | rfl | skip), rfl⟩
    · skip
      refine Plan.not rfl rfl rfl ?_
      refine Plan.pick (v := .bool _) rfl rfl rfl rfl ?_
      refine Plan.done ?_
      refine HW.cond_true rfl ?_
      refine HW.seq (HW.region [(0, .st), (1, .st)] rfl rfl ?_)
      refine Plan.assign (v := .bool _) rfl rfl rfl ?_
      refine Plan.assign (v := .int _ _) rfl rfl rfl ?_
      refine Plan.done ?_
      exact HW.ret ⟨rfl, _, [], .tmp rfl (.tmp rfl .nil), List.nil_sublist _, (by unfold OverlapF; simp [*]; first | rfl | skip), rfl⟩
  · skip
    refine Plan.not rfl rfl rfl ?_
    refine Plan.move (v := .bool _) rfl rfl rfl ?_
    refine Plan.no rfl rfl ?_
    refine Plan.noE rfl rfl ?_
    refine Plan.no rfl rfl ?_
    refine Plan.pick (v := .bool _) rfl rfl rfl rfl ?_
    refine Plan.done ?_
    refine HW.cond_true rfl ?_
    refine HW.seq (HW.region [(0, .st), (1, .st)] rfl rfl ?_)
    refine Plan.assign (v := .bool _) rfl rfl rfl ?_
    refine Plan.assign (v := .int _ _) rfl rfl rfl ?_
    refine Plan.done ?_
    exact HW.ret ⟨rfl, _, [], .tmp rfl (.tmp rfl .nil), List.nil_sublist _, (by unfold OverlapF; simp [*]; first | rfl | skip), rfl⟩

theorem rInside_ct (A1 A2 : Option Addr) (p q : List Pt) (n1 c1 n2 c2 : Nat) (w : World) (hp : Rd enc 2 w A1 p) (hq : Rd enc 2 w A2 q) (hn1 : n1 = p.length) (hn2 : n2 = q.length) :
    Ct P 26 #[.slice A1 n1 c1, .slice A2 n2 c2] w [] (fun r L => r = .tuple #[.bool (InsideF p q).1, int (InsideF p q).2] ∧ L = []) := by
  subst hn1 hn2
  refine Ct.of_body (rs := [.tmp 4, .tmp 5]) (N := 28) (L := []) Try.func26 rfl rfl rfl (by kernel_rfl) rfl (Mem.refl w) ?_
  refine HW.seq (HW.region [(0, .st), (1, .st)] rfl rfl ?_)
  refine Plan.assign (v := .bool _) rfl rfl rfl ?_
  refine Plan.assign (v := .int _ _) rfl rfl rfl ?_
  refine Plan.done ?_
  refine HW.seq ?_
  refine HW.seq (HW.region [(0, .st), (1, .ef), (2, .st), (3, .st), (4, .st), (5, .ef), (6, .st), (7, .st)] rfl rfl ?_)
  refine Plan.move (v := .slice _ _ _) rfl rfl rfl ?_
  refine Plan.callF [] 0 rfl rfl rfl (.inl rfl) (by simp) (fun w hm => rvalid_ct A1 p _ c1 w (hp.mem hm) rfl) ?_   -- tinplate/tinplateref03.Valid
  rintro v Ln ⟨rfl, rfl⟩
  refine Plan.splitB (fun h8 => ?_) (fun h8 => ?_)
  · skip
    refine Plan.not rfl rfl rfl ?_
    refine Plan.move (v := .bool _) rfl rfl rfl ?_
    refine Plan.move (v := .slice _ _ _) rfl rfl rfl ?_
    refine Plan.callF [] 0 rfl rfl rfl (.inl rfl) (by simp) (fun w hm => rvalid_ct A2 q _ c2 w (hq.mem hm) rfl) ?_   -- tinplate/tinplateref03.Valid
    rintro v Ln ⟨rfl, rfl⟩
    refine Plan.splitB (fun h12 => ?_) (fun h12 => ?_)
    · skip
      obtain ⟨u1, u2, u3, u4⟩ := validF_spec h8
      obtain ⟨v1, v2, v3, v4⟩ := validF_spec h12
      have hF : InsideF p q = (!p.any (fun v => decide (placeF q v < 0)), 0) := by unfold InsideF; rw [if_pos (by rw [h8, h12]; rfl)]
      refine Plan.not rfl rfl rfl ?_
      refine Plan.pick (v := .bool _) rfl rfl rfl rfl ?_
      refine Plan.done ?_
      refine HW.cond_false rfl ?_
      refine HW.skip ?_
      refine HW.seq ?_
      refine HW.seq (HW.region [(0, .st)] rfl rfl ?_)
      refine Plan.assign (v := .int _ _) rfl rfl rfl ?_
      refine Plan.done ?_
      refine HW.block ?_
      refine HW.loopC (G := Nat) [4, 5, 6, 15, 16, 17, 18, 19, 20, 21, 22, 23, 24, 25, 26, 27] (fun g => [(6, int g)]) (fun g => g ≤ p.length ∧ ∀ a, a < g → ¬ placeF q (nth p a) < 0) (fun g => p.length - g) (0) ⟨rfl, trivial⟩ (⟨Nat.zero_le _, fun a ha => absurd ha (Nat.not_lt_zero _)⟩) (fun g F hok => ?_)
      obtain ⟨i, rfl⟩ : ∃ i, i = g := ⟨g, rfl⟩
      obtain ⟨hi, hall⟩ := hok
      refine HW.seq ?_
      refine HW.seq (HW.region [(0, .st), (1, .st), (2, .st), (3, .st)] rfl rfl ?_)
      refine Plan.move (v := .int _ _) rfl rfl rfl ?_
      refine Plan.move (v := .slice _ _ _) rfl rfl rfl ?_
      refine Plan.len rfl rfl slV rfl ?_
      refine Plan.cmp2 rfl rfl rfl rfl rfl (fun h18 => ?_) (fun h18 => ?_)
      · replace h18 := of_decide_eq_true h18
        have hlt : i < p.length := by omega
        obtain ⟨ad, rfl, hl1'⟩ := hp i hlt
        refine Plan.done ?_
        refine HW.cond_true rfl ?_
        refine HW.skip ?_
        refine HW.seq ?_
        refine HW.block ?_
        refine HW.seq (HW.region [(0, .st), (1, .st), (2, .st), (3, .st), (4, .st), (5, .ef), (6, .st)] rfl rfl ?_)
        refine Plan.move (v := .slice _ _ _) rfl rfl rfl ?_
        refine Plan.move (v := .slice _ _ _) rfl rfl rfl ?_
        refine Plan.move (v := .int _ _) rfl rfl rfl ?_
        refine Plan.indexN (i) rfl rfl slV sizV rfl rfl rfl rfl (hlt) ?_
        refine Plan.loadAgg rfl rfl aggV sizV rfl (Sees.old hl1' (by simp)) rfl ?_
        refine Plan.callF [] 0 rfl rfl rfl (.inl rfl) (by simp) (fun w hm => rplace_ct A2 q _ _ c2 w (hq.mem hm) rfl (by omega) (fun v hv => (v3 v hv).mono (by omega)) ((u3 _ (List.getElem_mem hlt)).mono (by omega))) ?_   -- tinplate/tinplateref03.place
        rintro v Ln ⟨rfl, rfl⟩
        refine Plan.cmp2 rfl rfl rfl rfl rfl (fun h27 => ?_) (fun h27 => ?_)
        · replace h27 := of_decide_eq_true h27
          have hf : p.any (fun v => decide (placeF q v < 0)) = true := by
            rw [List.any_eq_true]
            exact ⟨p[i], List.getElem_mem hlt, decide_eq_true h27⟩
          refine Plan.done ?_
          refine HW.cond_true rfl ?_
          refine HW.seq (HW.region [(0, .st), (1, .st)] rfl rfl ?_)
          refine Plan.assign (v := .bool _) rfl rfl rfl ?_
          refine Plan.assign (v := .int _ _) rfl rfl rfl ?_
          refine Plan.done ?_
          exact HW.ret ⟨rfl, _, [], .tmp rfl (.tmp rfl .nil), List.nil_sublist _, (by rw [hF, hf]; rfl), rfl⟩
        · replace h27 := of_decide_eq_false h27
          refine Plan.done ?_
          refine HW.cond_false rfl ?_
          refine HW.skip ?_
          refine HW.region [(0, .st), (1, .st), (2, .st)] rfl rfl ?_
          refine Plan.move (v := .int _ _) rfl rfl rfl ?_
          refine Plan.arithI rfl rfl rfl rfl rfl (by omega) ?_
          refine Plan.assign (v := .int _ _) rfl rfl rfl ?_
          refine Plan.done ?_
          exact ⟨i + 1, by simp only; omega, ⟨hlt, fun b hb => by rcases Nat.lt_succ_iff_lt_or_eq.1 hb with h | rfl; exact hall b h; rw [nth_get hlt]; exact h27⟩, rfl, Ent.sub (.refl _), (by repeat (first | exact Agree.havoc _ _ _ | refine Agree.updN ?_ | refine Agree.upd rfl ?_ | refine Agree.updL rfl ?_ | refine Agree.havoc2 rfl ?_)), ⟨rfl, trivial⟩⟩
      · replace h18 := of_decide_eq_false h18
        refine Plan.done ?_
        refine HW.cond_false rfl ?_
        refine HW.exit ?_
        refine HW.seq (HW.region [(0, .st), (1, .st)] rfl rfl ?_)
        refine Plan.assign (v := .bool _) rfl rfl rfl ?_
        refine Plan.assign (v := .int _ _) rfl rfl rfl ?_
        refine Plan.done ?_
        have hf : p.any (fun v => decide (placeF q v < 0)) = false := by
          rw [List.any_eq_false]
          intro v hv
          obtain ⟨a, ha, rfl⟩ := List.getElem_of_mem hv
          have := hall a (by omega)
          rw [nth_get ha] at this
          simpa using this
        exact HW.ret ⟨rfl, _, [], .tmp rfl (.tmp rfl .nil), List.nil_sublist _, (by rw [hF, hf]; rfl), rfl⟩
    · skip
      refine Plan.not rfl rfl rfl ?_
      refine Plan.pick (v := .bool _) rfl rfl rfl rfl ?_
      refine Plan.done ?_
      refine HW.cond_true rfl ?_
      refine HW.seq (HW.region [(0, .st), (1, .st)] rfl rfl ?_)
      refine Plan.assign (v := .bool _) rfl rfl rfl ?_
      refine Plan.assign (v := .int _ _) rfl rfl rfl ?_
      refine Plan.done ?_
      exact HW.ret ⟨rfl, _, [], .tmp rfl (.tmp rfl .nil), List.nil_sublist _, (by unfold InsideF; simp [*]; first | rfl | skip), rfl⟩
  · skip
    refine Plan.not rfl rfl rfl ?_
    refine Plan.move (v := .bool _) rfl rfl rfl ?_
    refine Plan.no rfl rfl ?_
    refine Plan.noE rfl rfl ?_
    refine Plan.no rfl rfl ?_
    refine Plan.pick (v := .bool _) rfl rfl rfl rfl ?_
    refine Plan.done ?_
    refine HW.cond_true rfl ?_
    refine HW.seq (HW.region [(0, .st), (1, .st)] rfl rfl ?_)
    refine Plan.assign (v := .bool _) rfl rfl rfl ?_
    refine Plan.assign (v := .int _ _) rfl rfl rfl ?_
    refine Plan.done ?_
    exact HW.ret ⟨rfl, _, [], .tmp rfl (.tmp rfl .nil), List.nil_sublist _, (by unfold InsideF; simp [*]; first | rfl | skip), rfl⟩

set_option maxRecDepth 10000 in
set_option maxHeartbeats 4000000 in
theorem rSeparate_ct (A1 A2 : Option Addr) (p q : List Pt) (n1 c1 n2 c2 : Nat) (w : World) (hp : Rd enc 2 w A1 p) (hq : Rd enc 2 w A2 q) (hn1 : n1 = p.length) (hn2 : n2 = q.length) :
    Ct P 25 #[.slice A1 n1 c1, .slice A2 n2 c2] w [] (fun r L => r = .tuple #[vc (SeparateF p q).1, int (SeparateF p q).2] ∧ L = []) := by
  subst hn1 hn2
  refine Ct.of_body (rs := [.cell 4 36, .tmp 5]) (N := 96) (L := []) Try.func25 rfl rfl rfl (by kernel_rfl) rfl (Mem.refl w) ?_
  refine HW.seq (HW.region [(0, .al), (1, .st)] rfl rfl ?_)
  refine Plan.alloc rfl zerV fun b4 => ?_
  refine Plan.assign (v := .int _ _) rfl rfl rfl ?_
  refine Plan.done ?_
  refine HW.seq ?_
  refine HW.seq (HW.region [(0, .st), (1, .ef), (2, .st), (3, .st), (4, .st), (5, .ef), (6, .st), (7, .st)] rfl rfl ?_)
  refine Plan.move (v := .slice _ _ _) rfl rfl rfl ?_
  refine Plan.callF [] 0 rfl rfl rfl (.inl rfl) (by simp) (fun w hm => rvalid_ct A1 p _ c1 w (hp.mem hm) rfl) ?_   -- tinplate/tinplateref03.Valid
  rintro v Ln ⟨rfl, rfl⟩
  refine Plan.splitB (fun h15 => ?_) (fun h15 => ?_)
  · skip
    refine Plan.not rfl rfl rfl ?_
    refine Plan.move (v := .bool _) rfl rfl rfl ?_
    refine Plan.move (v := .slice _ _ _) rfl rfl rfl ?_
    refine Plan.callF [] 0 rfl rfl rfl (.inl rfl) (by simp) (fun w hm => rvalid_ct A2 q _ c2 w (hq.mem hm) rfl) ?_   -- tinplate/tinplateref03.Valid
    rintro v Ln ⟨rfl, rfl⟩
    refine Plan.splitB (fun h19 => ?_) (fun h19 => ?_)
    · skip
      obtain ⟨u1, u2, u3, u4⟩ := validF_spec h15
      obtain ⟨v1, v2, v3, v4⟩ := validF_spec h19
      have hF : SeparateF p q = if (partedF p q).2 then ((partedF p q).1, 0) else ((0, 0), 10) := by unfold SeparateF; rw [if_pos (by rw [h15, h19]; rfl)]
      have bp : ∀ v ∈ p, Bd2 100000 v.1 v.2 := fun v hv => (u3 v hv).mono (by omega)
      have bq : ∀ v ∈ q, Bd2 100000 v.1 v.2 := fun v hv => (v3 v hv).mono (by omega)
      refine Plan.not rfl rfl rfl ?_
      refine Plan.pick (v := .bool _) rfl rfl rfl rfl ?_
      refine Plan.done ?_
      refine HW.cond_false rfl ?_
      refine HW.skip ?_
      refine HW.seq ?_
      refine HW.seq (HW.region [(0, .st), (1, .st), (2, .ef)] rfl rfl ?_)
      refine Plan.move (v := .slice _ _ _) rfl rfl rfl ?_
      refine Plan.move (v := .slice _ _ _) rfl rfl rfl ?_
      refine Plan.callF [] 0 rfl rfl rfl (.inl rfl) (by simp) (fun w hm => roverlap_ct A1 A2 p q _ c1 _ c2 w (hp.mem hm) (hq.mem hm) rfl rfl h15 h19) ?_   -- tinplate/tinplateref03.overlap
      rintro v Ln ⟨rfl, rfl⟩
      refine Plan.splitB (fun h25 => ?_) (fun h25 => ?_)
      · skip
        have hf : SeparateF p q = ((0, 0), 10) := by
          rw [hF]
          cases hx : (partedF p q).2 with
          | true => rw [hx] at h25; cases h25
          | false => rfl
        refine Plan.done ?_
        refine HW.cond_true rfl ?_
        refine HW.seq (HW.region [(0, .st), (1, .ef), (2, .st)] rfl rfl ?_)
        refine Plan.build rfl rfl rfl (bld0) ?_
        refine Plan.storeA 0 rfl rfl hDn sizV rfl rfl rfl rfl rfl rfl ?_
        refine Plan.assign (v := .int _ _) rfl rfl rfl ?_
        refine Plan.done ?_
        exact HW.ret ⟨rfl, _, [], .cell rfl (own_loadAgg 0 rfl aggV sizV rfl) (.tmp rfl .nil), List.nil_sublist _, (by rw [hf]; rfl), rfl⟩
      · skip
        have hpt : (partedF p q).2 = true := by
          cases hx : (partedF p q).2 with
          | true => rfl
          | false => rw [hx] at h25; cases h25
        rw [if_pos hpt] at hF
        refine Plan.done ?_
        refine HW.cond_false rfl ?_
        refine HW.skip ?_
        refine HW.seq ?_
        refine HW.seq (HW.region [(0, .st)] rfl rfl ?_)
        refine Plan.assign (v := .int _ _) rfl rfl rfl ?_
        refine Plan.done ?_
        refine HW.block ?_
        refine HW.loopC (G := Nat) [5, 6, 7, 8, 9, 27, 28, 29, 30, 31, 32, 33, 34, 35, 36, 37, 38, 39, 40, 41, 42, 43, 44, 45, 46, 47, 48, 49, 50, 51, 52, 53, 54, 55, 56, 57, 58, 59, 60] (fun g => [(6, int g)]) (fun g => g ≤ p.length ∧ ∀ a, a < g → sepB p q (dirP p a) = false) (fun g => p.length - g) (0) ⟨rfl, trivial⟩ (⟨Nat.zero_le _, fun a ha => absurd ha (Nat.not_lt_zero _)⟩) (fun g F hok => ?_)
        obtain ⟨k, rfl⟩ : ∃ k, k = g := ⟨g, rfl⟩
        obtain ⟨hk, hall⟩ := hok
        refine HW.seq ?_
        refine HW.seq (HW.region [(0, .st), (1, .st), (2, .st), (3, .st)] rfl rfl ?_)
        refine Plan.move (v := .int _ _) rfl rfl rfl ?_
        refine Plan.move (v := .slice _ _ _) rfl rfl rfl ?_
        refine Plan.len rfl rfl slV rfl ?_
        refine Plan.cmp2 rfl rfl rfl rfl rfl (fun h30 => ?_) (fun h30 => ?_)
        · replace h30 := of_decide_eq_true h30
          have hlt : k < p.length := by omega
          have hlt2 : (k + 1) % p.length < p.length := Nat.mod_lt _ (by omega)
          have hmod : ((k : Int) + 1) % (p.length : Int) = (((k + 1) % p.length : Nat) : Int) := by rw [Int.natCast_emod, Int.natCast_add]; rfl
          obtain ⟨a1, rfl, l1⟩ := hp k hlt
          obtain ⟨a2, e2, l2⟩ := hp ((k + 1) % p.length) hlt2
          obtain rfl : a1 = a2 := by injection e2
          obtain ⟨⟨_, _⟩, ⟨_, _⟩⟩ := u3 _ (List.getElem_mem hlt)
          obtain ⟨⟨_, _⟩, ⟨_, _⟩⟩ := u3 _ (List.getElem_mem hlt2)
          have hd : ((p[(k + 1) % p.length].2 - p[k].2, p[k].1 - p[(k + 1) % p.length].1) : Pt) = dirP p k := by
            unfold dirP nx; rw [nth_get hlt, nth_get hlt2]; exact Prod.ext rfl (by simp only; omega)
          refine Plan.done ?_
          refine HW.cond_true rfl ?_
          refine HW.skip ?_
          refine HW.seq ?_
          refine HW.block ?_
          refine HW.seq (HW.region_any [14, 15] [(0, .st), (1, .st), (2, .st), (3, .st), (4, .st), (5, .st), (6, .so), (7, .st), (8, .so), (9, .so), (10, .so), (11, .so), (12, .al), (13, .al), (14, .ef), (15, .ef)] mix (by kernel_rfl) (fun _ _ _ _ _ h => h) (zeros rfl) ?_)
          refine Plan.move (v := .slice _ _ _) rfl rfl rfl ?_
          refine Plan.move (v := .int _ _) rfl rfl rfl ?_
          refine Plan.indexN (k) rfl rfl slV sizV rfl rfl rfl rfl (hlt) ?_
          refine Plan.loadAgg rfl rfl aggV sizV rfl (Sees.old l1 (by simp)) rfl ?_
          refine Plan.move (v := .slice _ _ _) rfl rfl rfl ?_
          refine Plan.move (v := .int _ _) rfl rfl rfl ?_
          refine Plan.so (Plan.arithI rfl rfl rfl rfl rfl (by omega) (Plan.done rfl)) ?_
          refine Plan.move (v := .slice _ _ _) rfl rfl rfl ?_
          refine Plan.so (Plan.len rfl rfl slV rfl (Plan.done rfl)) ?_
          refine Plan.so (Plan.rem rfl rfl rfl rfl (by omega) (Plan.done rfl)) ?_
          refine Plan.so (Plan.indexN ((k + 1) % p.length) rfl rfl slV sizV rfl rfl rfl hmod (hlt2) (Plan.done rfl)) ?_
          refine Plan.so (Plan.loadAgg rfl rfl aggV sizV rfl (Sees.old l2 (by simp)) rfl (Plan.done rfl)) ?_
          refine Plan.alloc rfl zerV fun b7 => ?_
          refine Plan.alloc rfl zerV fun b8 => ?_
          refine Plan.storeA 1 rfl rfl (hDs (by decide)) sizV rfl rfl rfl rfl rfl rfl ?_
          refine Plan.storeA 0 rfl rfl (hDs (by decide)) sizV rfl rfl rfl rfl rfl rfl ?_
          refine Plan.done ?_
          refine HW.seq (HW.region [(0, .st), (1, .st), (2, .st), (3, .st), (4, .st), (5, .st), (6, .st), (7, .st), (8, .st), (9, .st), (10, .st), (11, .al), (12, .ef)] rfl rfl ?_)
          refine Plan.fieldAddr rfl rfl fldV1 rfl ?_
          refine Plan.load (v := .int _ _) rfl rfl aggI rfl (Sees.one 0 rfl rfl) ?_
          refine Plan.fieldAddr rfl rfl fldV1 rfl ?_
          refine Plan.load (v := .int _ _) rfl rfl aggI rfl (Sees.one 1 rfl rfl) ?_
          refine Plan.arithI rfl rfl rfl rfl rfl (by omega) ?_
          refine Plan.fieldAddr rfl rfl fldV0 rfl ?_
          refine Plan.load (v := .int _ _) rfl rfl aggI rfl (Sees.one 1 rfl rfl) ?_
          refine Plan.fieldAddr rfl rfl fldV0 rfl ?_
          refine Plan.load (v := .int _ _) rfl rfl aggI rfl (Sees.one 0 rfl rfl) ?_
          refine Plan.arithI rfl rfl rfl rfl rfl (by omega) ?_
          refine Plan.build rfl rfl rfl (bldV _ _) ?_
          refine Plan.alloc rfl zerV fun b9 => ?_
          refine Plan.storeA 0 rfl rfl hDn sizV rfl rfl rfl rfl rfl rfl ?_
          refine Plan.done ?_
          refine HW.seq (HW.region [(0, .st), (1, .st), (2, .st), (3, .ef)] rfl rfl ?_)
          refine Plan.move (v := .slice _ _ _) rfl rfl rfl ?_
          refine Plan.move (v := .slice _ _ _) rfl rfl rfl ?_
          refine Plan.loadAll 0 rfl rfl aggV sizV rfl rfl rfl ?_
          refine Plan.callF [] 0 rfl rfl rfl (.inl rfl) (by simp) (fun w hm => parts_ct _ A2 p q (_, _) _ c1 _ c2 w (hp.mem hm) (hq.mem hm) rfl rfl (by omega) (by omega) (by omega) (by omega) bp bq ⟨⟨by simp only; omega, by simp only; omega⟩, ⟨by simp only; omega, by simp only; omega⟩⟩) ?_   -- tinplate/tinplateref03.parts
          rintro v Ln ⟨rfl, rfl⟩
          rw [hd]
          refine Plan.splitB (fun h59 => ?_) (fun h59 => ?_)
          · skip
            have hf : SeparateF p q = (dirP p k, 0) := by
              rw [hF]; unfold partedF; rw [firstD_some hlt h59 (fun j hj => hall j hj)]
            refine Plan.done ?_
            refine HW.cond_true rfl ?_
            refine HW.seq (HW.region [(0, .st), (1, .ef), (2, .st)] rfl rfl ?_)
            refine Plan.loadAll 0 rfl rfl aggV sizV rfl rfl rfl ?_
            refine Plan.storeA 3 rfl rfl hDn sizV rfl rfl rfl rfl rfl rfl ?_
            refine Plan.assign (v := .int _ _) rfl rfl rfl ?_
            refine Plan.done ?_
            exact HW.ret ⟨rfl, _, [], .cell rfl (own_loadAgg 3 rfl aggV sizV rfl) (.tmp rfl .nil), List.nil_sublist _, (by rw [hf, ← hd]; rfl), rfl⟩
          · skip
            refine Plan.done ?_
            refine HW.cond_false rfl ?_
            refine HW.skip ?_
            refine HW.region [(0, .st), (1, .st), (2, .st)] rfl rfl ?_
            refine Plan.move (v := .int _ _) rfl rfl rfl ?_
            refine Plan.arithI rfl rfl rfl rfl rfl (by omega) ?_
            refine Plan.assign (v := .int _ _) rfl rfl rfl ?_
            refine Plan.done ?_
            exact ⟨k + 1, by simp only; omega, ⟨hlt, fun b hb => by rcases Nat.lt_succ_iff_lt_or_eq.1 hb with h | rfl; exact hall b h; exact h59⟩, rfl, Ent.sub (.cons _ (.cons _ (.cons _ (.refl _)))), (by repeat (first | exact Agree.havoc _ _ _ | refine Agree.updN ?_ | refine Agree.upd rfl ?_ | refine Agree.updL rfl ?_ | refine Agree.havoc2 rfl ?_)), ⟨rfl, trivial⟩⟩
        · replace h30 := of_decide_eq_false h30
          have hnone : firstD (dirP p) (sepB p q) p.length = none := by
            cases hx : firstD (dirP p) (sepB p q) p.length with
            | none => rfl
            | some d =>
              obtain ⟨a, ha, rfl, hs⟩ := firstD_spec hx
              rw [hall a (by omega)] at hs
              cases hs
          refine Plan.done ?_
          refine HW.cond_false rfl ?_
          refine HW.exit ?_
          refine HW.seq ?_
          refine HW.seq (HW.region [(0, .st)] rfl rfl ?_)
          refine Plan.assign (v := .int _ _) rfl rfl rfl ?_
          refine Plan.done ?_
          refine HW.block ?_
          refine HW.loopC (G := Nat) [5, 10, 11, 12, 13, 61, 62, 63, 64, 65, 66, 67, 68, 69, 70, 71, 72, 73, 74, 75, 76, 77, 78, 79, 80, 81, 82, 83, 84, 85, 86, 87, 88, 89, 90, 91, 92, 93, 94] (fun g => [(10, int g)]) (fun g => g ≤ q.length ∧ ∀ a, a < g → sepB p q (dirQ q a) = false) (fun g => q.length - g) (0) ⟨rfl, trivial⟩ (⟨Nat.zero_le _, fun a ha => absurd ha (Nat.not_lt_zero _)⟩) (fun g F hok => ?_)
          clear hall
          obtain ⟨k, rfl⟩ : ∃ k, k = g := ⟨g, rfl⟩
          obtain ⟨hk, hall⟩ := hok
          refine HW.seq ?_
          refine HW.seq (HW.region [(0, .st), (1, .st), (2, .st), (3, .st)] rfl rfl ?_)
          refine Plan.move (v := .int _ _) rfl rfl rfl ?_
          refine Plan.move (v := .slice _ _ _) rfl rfl rfl ?_
          refine Plan.len rfl rfl slV rfl ?_
          refine Plan.cmp2 rfl rfl rfl rfl rfl (fun h64 => ?_) (fun h64 => ?_)
          · replace h64 := of_decide_eq_true h64
            have hlt : k < q.length := by omega
            have hlt2 : (k + 1) % q.length < q.length := Nat.mod_lt _ (by omega)
            have hmod : ((k : Int) + 1) % (q.length : Int) = (((k + 1) % q.length : Nat) : Int) := by rw [Int.natCast_emod, Int.natCast_add]; rfl
            obtain ⟨a1, rfl, l1⟩ := hq k hlt
            obtain ⟨a2, e2, l2⟩ := hq ((k + 1) % q.length) hlt2
            obtain rfl : a1 = a2 := by injection e2
            obtain ⟨⟨_, _⟩, ⟨_, _⟩⟩ := v3 _ (List.getElem_mem hlt)
            obtain ⟨⟨_, _⟩, ⟨_, _⟩⟩ := v3 _ (List.getElem_mem hlt2)
            have hd : ((q[k].2 - q[(k + 1) % q.length].2, q[(k + 1) % q.length].1 - q[k].1) : Pt) = dirQ q k := by
              unfold dirQ nx; rw [nth_get hlt, nth_get hlt2]; exact Prod.ext (by simp only; omega) rfl
            refine Plan.done ?_
            refine HW.cond_true rfl ?_
            refine HW.skip ?_
            refine HW.seq ?_
            refine HW.block ?_
            refine HW.seq (HW.region_any [14, 15] [(0, .st), (1, .st), (2, .st), (3, .st), (4, .st), (5, .st), (6, .so), (7, .st), (8, .so), (9, .so), (10, .so), (11, .so), (12, .al), (13, .al), (14, .ef), (15, .ef)] mix (by kernel_rfl) (fun _ _ _ _ _ h => h) (zeros rfl) ?_)
            refine Plan.move (v := .slice _ _ _) rfl rfl rfl ?_
            refine Plan.move (v := .int _ _) rfl rfl rfl ?_
            refine Plan.indexN (k) rfl rfl slV sizV rfl rfl rfl rfl (hlt) ?_
            refine Plan.loadAgg rfl rfl aggV sizV rfl (Sees.old l1 (by simp)) rfl ?_
            refine Plan.move (v := .slice _ _ _) rfl rfl rfl ?_
            refine Plan.move (v := .int _ _) rfl rfl rfl ?_
            refine Plan.so (Plan.arithI rfl rfl rfl rfl rfl (by omega) (Plan.done rfl)) ?_
            refine Plan.move (v := .slice _ _ _) rfl rfl rfl ?_
            refine Plan.so (Plan.len rfl rfl slV rfl (Plan.done rfl)) ?_
            refine Plan.so (Plan.rem rfl rfl rfl rfl (by omega) (Plan.done rfl)) ?_
            refine Plan.so (Plan.indexN ((k + 1) % q.length) rfl rfl slV sizV rfl rfl rfl hmod (hlt2) (Plan.done rfl)) ?_
            refine Plan.so (Plan.loadAgg rfl rfl aggV sizV rfl (Sees.old l2 (by simp)) rfl (Plan.done rfl)) ?_
            refine Plan.alloc rfl zerV fun b11 => ?_
            refine Plan.alloc rfl zerV fun b12 => ?_
            refine Plan.storeA 1 rfl rfl (hDs (by decide)) sizV rfl rfl rfl rfl rfl rfl ?_
            refine Plan.storeA 0 rfl rfl (hDs (by decide)) sizV rfl rfl rfl rfl rfl rfl ?_
            refine Plan.done ?_
            refine HW.seq (HW.region [(0, .st), (1, .st), (2, .st), (3, .st), (4, .st), (5, .st), (6, .st), (7, .st), (8, .st), (9, .st), (10, .st), (11, .al), (12, .ef)] rfl rfl ?_)
            refine Plan.fieldAddr rfl rfl fldV1 rfl ?_
            refine Plan.load (v := .int _ _) rfl rfl aggI rfl (Sees.one 1 rfl rfl) ?_
            refine Plan.fieldAddr rfl rfl fldV1 rfl ?_
            refine Plan.load (v := .int _ _) rfl rfl aggI rfl (Sees.one 0 rfl rfl) ?_
            refine Plan.arithI rfl rfl rfl rfl rfl (by omega) ?_
            refine Plan.fieldAddr rfl rfl fldV0 rfl ?_
            refine Plan.load (v := .int _ _) rfl rfl aggI rfl (Sees.one 0 rfl rfl) ?_
            refine Plan.fieldAddr rfl rfl fldV0 rfl ?_
            refine Plan.load (v := .int _ _) rfl rfl aggI rfl (Sees.one 1 rfl rfl) ?_
            refine Plan.arithI rfl rfl rfl rfl rfl (by omega) ?_
            refine Plan.build rfl rfl rfl (bldV _ _) ?_
            refine Plan.alloc rfl zerV fun b13 => ?_
            refine Plan.storeA 0 rfl rfl hDn sizV rfl rfl rfl rfl rfl rfl ?_
            refine Plan.done ?_
            refine HW.seq (HW.region [(0, .st), (1, .st), (2, .st), (3, .ef)] rfl rfl ?_)
            refine Plan.move (v := .slice _ _ _) rfl rfl rfl ?_
            refine Plan.move (v := .slice _ _ _) rfl rfl rfl ?_
            refine Plan.loadAll 0 rfl rfl aggV sizV rfl rfl rfl ?_
            refine Plan.callF [] 0 rfl rfl rfl (.inl rfl) (by simp) (fun w hm => parts_ct A1 _ p q (_, _) _ c1 _ c2 w (hp.mem hm) (hq.mem hm) rfl rfl (by omega) (by omega) (by omega) (by omega) bp bq ⟨⟨by simp only; omega, by simp only; omega⟩, ⟨by simp only; omega, by simp only; omega⟩⟩) ?_   -- tinplate/tinplateref03.parts
            rintro v Ln ⟨rfl, rfl⟩
            rw [hd]
            refine Plan.splitB (fun h93 => ?_) (fun h93 => ?_)
            · skip
              have hf : SeparateF p q = (dirQ q k, 0) := by
                rw [hF]; unfold partedF; rw [hnone, firstD_some hlt h93 (fun j hj => hall j hj)]
              refine Plan.done ?_
              refine HW.cond_true rfl ?_
              refine HW.seq (HW.region [(0, .st), (1, .ef), (2, .st)] rfl rfl ?_)
              refine Plan.loadAll 0 rfl rfl aggV sizV rfl rfl rfl ?_
              refine Plan.storeA 3 rfl rfl hDn sizV rfl rfl rfl rfl rfl rfl ?_
              refine Plan.assign (v := .int _ _) rfl rfl rfl ?_
              refine Plan.done ?_
              exact HW.ret ⟨rfl, _, [], .cell rfl (own_loadAgg 3 rfl aggV sizV rfl) (.tmp rfl .nil), List.nil_sublist _, (by rw [hf, ← hd]; rfl), rfl⟩
            · skip
              refine Plan.done ?_
              refine HW.cond_false rfl ?_
              refine HW.skip ?_
              refine HW.region [(0, .st), (1, .st), (2, .st)] rfl rfl ?_
              refine Plan.move (v := .int _ _) rfl rfl rfl ?_
              refine Plan.arithI rfl rfl rfl rfl rfl (by omega) ?_
              refine Plan.assign (v := .int _ _) rfl rfl rfl ?_
              refine Plan.done ?_
              exact ⟨k + 1, by simp only; omega, ⟨hlt, fun b hb => by rcases Nat.lt_succ_iff_lt_or_eq.1 hb with h | rfl; exact hall b h; exact h93⟩, rfl, Ent.sub (.cons _ (.cons _ (.cons _ (.refl _)))), (by repeat (first | exact Agree.havoc _ _ _ | refine Agree.updN ?_ | refine Agree.upd rfl ?_ | refine Agree.updL rfl ?_ | refine Agree.havoc2 rfl ?_)), ⟨rfl, trivial⟩⟩
          · replace h64 := of_decide_eq_false h64
            skip
            have hnone2 : firstD (dirQ q) (sepB p q) q.length = none := by
              cases hx : firstD (dirQ q) (sepB p q) q.length with
              | none => rfl
              | some d =>
                obtain ⟨a, ha, rfl, hs⟩ := firstD_spec hx
                rw [hall a (by omega)] at hs
                cases hs
            exact absurd hpt (by unfold partedF; rw [hnone, hnone2]; simp)
    · skip
      refine Plan.not rfl rfl rfl ?_
      refine Plan.pick (v := .bool _) rfl rfl rfl rfl ?_
      refine Plan.done ?_
      refine HW.cond_true rfl ?_
      refine HW.seq (HW.region [(0, .st), (1, .ef), (2, .st)] rfl rfl ?_)
      refine Plan.build rfl rfl rfl (bld0) ?_
      refine Plan.storeA 0 rfl rfl hDn sizV rfl rfl rfl rfl rfl rfl ?_
      refine Plan.assign (v := .int _ _) rfl rfl rfl ?_
      refine Plan.done ?_
      exact HW.ret ⟨rfl, _, [], .cell rfl (own_loadAgg 0 rfl aggV sizV rfl) (.tmp rfl .nil), List.nil_sublist _, (by unfold SeparateF; simp [*]; first | rfl | skip), rfl⟩
  · skip
    refine Plan.not rfl rfl rfl ?_
    refine Plan.move (v := .bool _) rfl rfl rfl ?_
    refine Plan.no rfl rfl ?_
    refine Plan.noE rfl rfl ?_
    refine Plan.no rfl rfl ?_
    refine Plan.pick (v := .bool _) rfl rfl rfl rfl ?_
    refine Plan.done ?_
    refine HW.cond_true rfl ?_
    refine HW.seq (HW.region [(0, .st), (1, .ef), (2, .st)] rfl rfl ?_)
    refine Plan.build rfl rfl rfl (bld0) ?_
    refine Plan.storeA 0 rfl rfl hDn sizV rfl rfl rfl rfl rfl rfl ?_
    refine Plan.assign (v := .int _ _) rfl rfl rfl ?_
    refine Plan.done ?_
    exact HW.ret ⟨rfl, _, [], .cell rfl (own_loadAgg 0 rfl aggV sizV rfl) (.tmp rfl .nil), List.nil_sublist _, (by unfold SeparateF; simp [*]; first | rfl | skip), rfl⟩

end Go.Proofs.Ytoghphikfkdkmaa.V
