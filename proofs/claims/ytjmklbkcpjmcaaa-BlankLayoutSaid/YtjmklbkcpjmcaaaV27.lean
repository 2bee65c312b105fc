/-
  The specification's sums, overlap, parts, Overlap, Separate, Inside (package tinplateref03).
-/
import Derived.Test.YtjmklbkcpjmcaaaV26
namespace Go.Proofs.Ytjmklbkcpjmcaaa.V
open Go Go.RowKit Go.Proofs.Ytjmklbkcpjmcaaa.H
set_option linter.unusedVariables false
set_option linter.unusedSimpArgs false

theorem sums_take {p q : List Pt} {k : Nat} (h : k < p.length) : sumsF (p.take (k + 1)) q = sumsF (p.take k) q ++ q.map (vAdd p[k]) := by
  unfold sumsF
  rw [List.take_add_one, List.getElem?_eq_getElem h, List.flatMap_append]
  simp

theorem rsums_ct (A1 A2 : Option Addr) (p q S : List Pt) (n1 c1 n2 c2 : Nat) (w : World) (hp : Rd enc 2 w A1 p) (hq : Rd enc 2 w A2 q) (hn1 : n1 = p.length) (hn2 : n2 = q.length) (hl1 : 3 ≤ p.length) (hl2 : 3 ≤ q.length) (hl3 : p.length ≤ 32) (hl4 : q.length ≤ 32)
    (hb1 : ∀ v ∈ p, Bd2 1000 v.1 v.2) (hb2 : ∀ v ∈ q, Bd2 1000 v.1 v.2) (hH : HullOf (sumsF p q) S) (hSl : S.length ≤ p.length + q.length) :
    Ct P 117 #[.slice A1 n1 c1, .slice A2 n2 c2] w [] (fun r L => ∃ b c', r = slv (some b) S.length c' ∧ L = [ownV (some b) c' S]) := by
  subst hn1 hn2
  have hmul : ∀ k, k ≤ 32 → k * q.length ≤ 1024 := fun k hk => by
    have := Nat.mul_le_mul hk hl4; omega
  have hsl : ∀ k, k ≤ p.length → (sumsF (p.take k) q).length = k * q.length := fun k hk => by rw [sums_len, List.length_take, Nat.min_eq_left hk]
  have hfull : p.length + q.length ≤ p.length * q.length := by
    have h1 : 3 * q.length ≤ p.length * q.length := Nat.mul_le_mul_right _ hl1
    have h2 : p.length * 3 ≤ p.length * q.length := Nat.mul_le_mul_left _ hl2
    omega
  refine Ct.of_body (rs := [.tmp 4]) (N := 23) (L := []) Try.func117 rfl rfl rfl (by kernel_rfl) rfl (Mem.refl w) ?_
  refine HW.seq (HW.region [(0, .st)] rfl rfl ?_)
  refine Plan.assign (v := .slice _ _ _) rfl rfl rfl ?_
  refine Plan.done ?_
  refine HW.seq (HW.region [(0, .st)] rfl rfl ?_)
  refine Plan.assign (v := .slice _ _ _) rfl rfl rfl ?_
  refine Plan.done ?_
  refine HW.seq ?_
  refine HW.seq (HW.region [(0, .st)] rfl rfl ?_)
  refine Plan.assign (v := .int _ _) rfl rfl rfl ?_
  refine Plan.done ?_
  refine HW.block ?_
  refine HW.loopL (G := MpG) [5, 6, 7, 8, 9, 10, 11, 12, 13, 14, 15, 16, 17, 18, 19, 20] (fun g => [(6, int g.k), (5, slv g.o (sumsF (p.take g.k) q).length g.c)]) (fun g => [ownV g.o g.c (sumsF (p.take g.k) q)]) (fun g => g.k ≤ p.length) (fun g => p.length - g.k) (⟨0, none, 0⟩) ⟨rfl, rfl, trivial⟩ (fun w' hm => hm.addNil) (Nat.zero_le _) (fun g F hok => ?_)
  obtain ⟨k, o, c3⟩ := g
  simp only at hok
  dsimp only
  have hk1 := hsl k hok
  have hk2 := hmul k (by omega)
  refine HW.seq ?_
  refine HW.seq (HW.region [(0, .st), (1, .st), (2, .st), (3, .st)] rfl rfl ?_)
  refine Plan.move (v := .int _ _) rfl rfl rfl ?_
  refine Plan.move (v := .slice _ _ _) rfl rfl rfl ?_
  refine Plan.len rfl rfl slV rfl ?_
  refine Plan.cmp2 rfl rfl rfl rfl rfl (fun h10 => ?_) (fun h10 => ?_)
  · replace h10 := of_decide_eq_true h10
    have hlt : k < p.length := by omega
    obtain ⟨ad, rfl, hl1'⟩ := hp k hlt
    have e := sums_take (q := q) hlt
    refine Plan.done ?_
    refine HW.cond_true rfl ?_
    refine HW.skip ?_
    refine HW.seq ?_
    refine HW.block ?_
    refine HW.region [(0, .st), (1, .st), (2, .st), (3, .st), (4, .st), (5, .st), (6, .ef), (7, .ef), (8, .st)] rfl rfl ?_
    refine Plan.move (v := .slice _ _ _) rfl rfl rfl ?_
    refine Plan.move (v := .slice _ _ _) rfl rfl rfl ?_
    refine Plan.move (v := .slice _ _ _) rfl rfl rfl ?_
    refine Plan.move (v := .int _ _) rfl rfl rfl ?_
    refine Plan.indexN (k) rfl rfl slV sizV rfl rfl rfl rfl (hlt) ?_
    refine Plan.loadAgg rfl rfl aggV sizV rfl (Sees.old hl1' (by simp)) rfl ?_
    refine Plan.callF [] 0 rfl rfl rfl (.inl rfl) (by simp) (fun w hm => rmoved_ct A2 q _ _ c2 w (hq.mem hm) rfl (by omega) (by omega) (fun v hv => (hb2 v hv).mono (by omega)) ((hb1 _ (List.getElem_mem hlt)).mono (by omega))) ?_   -- tinplate/tinplateref03.moved
    rintro v Ln ⟨o2, d2, b2, rfl, rfl, rfl⟩
    refine Plan.append (enc := enc) (sz := 2) (ys := q.map (vAdd p[k])) (1) rfl rfl hDn slV infV rfl (by decide) enc2 enc1 rfl rfl rfl rfl (by simp) (Sees.ownAll 0 rfl b2 rfl) (by rw [List.length_map]; omega) (by rw [List.length_map]; omega) fun o20 c20 => ?_
    refine Plan.assign (v := .slice _ _ _) rfl rfl rfl ?_
    refine Plan.done ?_
    refine HW.region [(0, .st), (1, .st), (2, .st)] rfl rfl ?_
    refine Plan.move (v := .int _ _) rfl rfl rfl ?_
    refine Plan.arithI rfl rfl rfl rfl rfl (by omega) ?_
    refine Plan.assign (v := .int _ _) rfl rfl rfl ?_
    refine Plan.done ?_
    exact ⟨⟨k + 1, o20, c20⟩, by simp only; omega, hlt, rfl, (fun w' hm => by
        show Mem _ _ [ownV o20 c20 (sumsF (p.take (k + 1)) q)] w'
        rw [e]
        exact hm.sub (.cons _ (.refl _))), (by repeat (first | exact Agree.havoc _ _ _ | refine Agree.updN ?_ | refine Agree.upd rfl ?_ | refine Agree.updL rfl ?_ | refine Agree.havoc2 rfl ?_)), ⟨rfl, slv_eq (by rw [e, List.length_append]), trivial⟩⟩
  · replace h10 := of_decide_eq_false h10
    have hke : k = p.length := by omega
    rw [hke, List.take_length]
    rw [hke, List.take_length] at hk1
    refine Plan.done ?_
    refine HW.cond_false rfl ?_
    refine HW.exit ?_
    refine HW.seq (HW.region [(0, .st), (1, .ef), (2, .st)] rfl rfl ?_)
    refine Plan.move (v := .slice _ _ _) rfl rfl rfl ?_
    refine Plan.callF [] 0 rfl rfl rfl (.inl rfl) (by simp) (fun w hm => wrap_ct (at0 o) (sumsF p q) S _ c3 w (Res.own_rd enc2 (hm.res _ List.mem_cons_self)) rfl (by have := hmul p.length hl3; omega) (fun v hv => by
        obtain ⟨a, ha, b, hb, rfl⟩ := mem_sums.1 hv
        obtain ⟨⟨_, _⟩, ⟨_, _⟩⟩ := hb1 a ha
        obtain ⟨⟨_, _⟩, ⟨_, _⟩⟩ := hb2 b hb
        unfold ad
        exact ⟨⟨by simp only; omega, by simp only; omega⟩, ⟨by simp only; omega, by simp only; omega⟩⟩) hH (by omega)) ?_   -- tinplate/tinplateref03.wrap
    rintro v Ln ⟨b, d, rfl, rfl⟩
    refine Plan.assign (v := .slice _ _ _) rfl rfl rfl ?_
    refine Plan.done ?_
    exact HW.ret ⟨rfl, _, [ownV (some b) d S], .tmp rfl .nil, .cons_cons _ (List.nil_sublist _), b, d, rfl, rfl⟩

theorem Vneg_bd {q : List Pt} (h : ∀ v ∈ q, Bd2 1000 v.1 v.2) : ∀ v ∈ q.map vNeg, Bd2 1000 v.1 v.2 := fun v hv => by
  obtain ⟨u, hu, rfl⟩ := List.mem_map.1 hv
  obtain ⟨⟨_, _⟩, ⟨_, _⟩⟩ := h u hu
  unfold vNeg
  exact ⟨⟨by simp only; omega, by simp only; omega⟩, ⟨by simp only; omega, by simp only; omega⟩⟩

theorem roverlap_ct (A1 A2 : Option Addr) (p q : List Pt) (n1 c1 n2 c2 : Nat) (w : World) (hp : Rd enc 2 w A1 p) (hq : Rd enc 2 w A2 q) (hn1 : n1 = p.length) (hn2 : n2 = q.length) (hv1 : validF p = true) (hv2 : validF q = true) :
    Ct P 99 #[.slice A1 n1 c1, .slice A2 n2 c2] w [] (fun r L => r = .bool (!(partedF p q).2) ∧ L = []) := by
  subst hn1 hn2
  obtain ⟨u1, u2, u3, u4⟩ := validF_spec hv1
  obtain ⟨v1, v2, v3, v4⟩ := validF_spec hv2
  obtain ⟨hH, hz⟩ := overlap_zero hv1 hv2
  obtain ⟨hm', vo⟩ := flip_spec hv2
  have hSl : (sumF p (hullF (q.map vNeg))).length ≤ p.length + (q.map vNeg).length := by
    have := (sum_spec (valid_sr hv1) (valid_sr vo)).len
    rw [hm'.len] at this
    simpa using this
  have hSb : ∀ v ∈ sumF p (hullF (q.map vNeg)), Bd2 100000 v.1 v.2 := fun v hv => by
    obtain ⟨a, ha, b, hb, rfl⟩ := mem_sums.1 (hH.sub v hv)
    obtain ⟨⟨_, _⟩, ⟨_, _⟩⟩ := u3 a ha
    obtain ⟨⟨_, _⟩, ⟨_, _⟩⟩ := Vneg_bd v3 b hb
    unfold ad
    exact ⟨⟨by simp only; omega, by simp only; omega⟩, ⟨by simp only; omega, by simp only; omega⟩⟩
  generalize sumF p (hullF (q.map vNeg)) = S at *
  refine Ct.of_body (rs := [.tmp 4]) (N := 12) (L := []) Try.func99 rfl rfl rfl (by kernel_rfl) rfl (Mem.refl w) ?_
  refine HW.seq (HW.region [(0, .st)] rfl rfl ?_)
  refine Plan.assign (v := .bool _) rfl rfl rfl ?_
  refine Plan.done ?_
  refine HW.seq (HW.region [(0, .st), (1, .st), (2, .ef), (3, .ef), (4, .st), (5, .ef), (6, .st), (7, .st)] rfl rfl ?_)
  refine Plan.move (v := .slice _ _ _) rfl rfl rfl ?_
  refine Plan.move (v := .slice _ _ _) rfl rfl rfl ?_
  refine Plan.callF [] 0 rfl rfl rfl (.inl rfl) (by simp) (fun w hm => rflipped_ct A2 q _ c2 w (hq.mem hm) rfl (by omega) (fun v hv => (v3 v hv).mono (by omega))) ?_   -- tinplate/tinplateref03.flipped
  rintro v Ln ⟨o1, d1, rfl, rfl⟩
  refine Plan.callF [] 0 rfl rfl rfl (.inl rfl) (by simp) (fun w hm => rsums_ct A1 (at0 o1) p (q.map vNeg) S _ c1 _ d1 w (hp.mem hm) (Res.own_rd enc2 (hm.res _ List.mem_cons_self)) rfl (by simp) u1 (by simpa using v1) u2 (by simpa using v2) u3 (Vneg_bd v3) hH hSl) ?_   -- tinplate/tinplateref03.sums
  rintro v Ln ⟨b2, d2, rfl, rfl⟩
  refine Plan.build rfl rfl rfl (bld0) ?_
  refine Plan.callF [] 0 rfl rfl rfl (.inl rfl) (by simp) (fun w hm => rplace_ct (at0 (some b2)) S (0, 0) _ d2 w (Res.own_rd enc2 (hm.res _ List.mem_cons_self)) rfl (by rw [List.length_map] at hSl; omega) hSb ⟨⟨by decide, by decide⟩, ⟨by decide, by decide⟩⟩) ?_   -- tinplate/tinplateref03.place
  rintro v Ln ⟨rfl, rfl⟩
  refine Plan.cmp2 rfl rfl rfl rfl rfl (fun h11 => ?_) (fun h11 => ?_)
  · replace h11 := of_decide_eq_true h11
    refine Plan.assign (v := .bool _) rfl rfl rfl ?_
    refine Plan.done ?_
    exact HW.ret ⟨rfl, _, [], .tmp rfl .nil, List.nil_sublist _, (by rw [hz.1 h11]; rfl), rfl⟩
  · replace h11 := of_decide_eq_false h11
    have hpt : (partedF p q).2 = true := by cases hx : (partedF p q).2 with | true => rfl | false => exact absurd (hz.2 hx) h11
    refine Plan.assign (v := .bool _) rfl rfl rfl ?_
    refine Plan.done ?_
    exact HW.ret ⟨rfl, _, [], .tmp rfl .nil, List.nil_sublist _, (by rw [hpt]; rfl), rfl⟩

theorem rOverlap_ct (A1 A2 : Option Addr) (p q : List Pt) (n1 c1 n2 c2 : Nat) (w : World) (hp : Rd enc 2 w A1 p) (hq : Rd enc 2 w A2 q) (hn1 : n1 = p.length) (hn2 : n2 = q.length) :
    Ct P 72 #[.slice A1 n1 c1, .slice A2 n2 c2] w [] (fun r L => r = .tuple #[.bool (OverlapF p q).1, int (OverlapF p q).2] ∧ L = []) := by
  subst hn1 hn2
  refine Ct.of_body (rs := [.tmp 4, .tmp 5]) (N := 17) (L := []) Try.func72 rfl rfl rfl (by kernel_rfl) rfl (Mem.refl w) ?_
  refine HW.seq (HW.region [(0, .st), (1, .st)] rfl rfl ?_)
  refine Plan.assign (v := .bool _) rfl rfl rfl ?_
  refine Plan.assign (v := .int _ _) rfl rfl rfl ?_
  refine Plan.done ?_
  refine HW.seq ?_
  refine HW.seq (HW.region [(0, .st), (1, .ef), (2, .st), (3, .st), (4, .st), (5, .ef), (6, .st), (7, .st)] rfl rfl ?_)
  refine Plan.move (v := .slice _ _ _) rfl rfl rfl ?_
  refine Plan.callF [] 0 rfl rfl rfl (.inl rfl) (by simp) (fun w hm => rvalid_ct A1 p _ c1 w (hp.mem hm) rfl) ?_   -- tinplate/tinplateref03.Valid
  rintro v Ln ⟨rfl, rfl⟩
  refine Plan.splitB (fun h7 => ?_) (fun h7 => ?_)
  · skip
    refine Plan.not rfl rfl rfl ?_
    refine Plan.move (v := .bool _) rfl rfl rfl ?_
    refine Plan.move (v := .slice _ _ _) rfl rfl rfl ?_
    refine Plan.callF [] 0 rfl rfl rfl (.inl rfl) (by simp) (fun w hm => rvalid_ct A2 q _ c2 w (hq.mem hm) rfl) ?_   -- tinplate/tinplateref03.Valid
    rintro v Ln ⟨rfl, rfl⟩
    refine Plan.splitB (fun h11 => ?_) (fun h11 => ?_)
    · skip
      refine Plan.not rfl rfl rfl ?_
      refine Plan.pick (v := .bool _) rfl rfl rfl rfl ?_
      refine Plan.done ?_
      refine HW.cond_false rfl ?_
      refine HW.skip ?_
      refine HW.seq (HW.region [(0, .st), (1, .st), (2, .ef), (3, .st), (4, .st)] rfl rfl ?_)
      refine Plan.move (v := .slice _ _ _) rfl rfl rfl ?_
      refine Plan.move (v := .slice _ _ _) rfl rfl rfl ?_
      refine Plan.callF [] 0 rfl rfl rfl (.inl rfl) (by simp) (fun w hm => roverlap_ct A1 A2 p q _ c1 _ c2 w (hp.mem hm) (hq.mem hm) rfl rfl h7 h11) ?_   -- tinplate/tinplateref03.overlap
      rintro v Ln ⟨rfl, rfl⟩
      refine Plan.splitB (fun h16 => ?_) (fun h16 => ?_)
      · skip
        refine Plan.assign (v := .bool _) rfl rfl rfl ?_
        refine Plan.assign (v := .int _ _) rfl rfl rfl ?_
        refine Plan.done ?_
        exact HW.ret ⟨rfl, _, [], .tmp rfl (.tmp rfl .nil), List.nil_sublist _, (by unfold OverlapF; simp [*]; first | rfl | skip), rfl⟩
      · skip
        refine Plan.assign (v := .bool _) rfl rfl rfl ?_
        refine Plan.assign (v := .int _ _) rfl rfl rfl ?_
        refine Plan.done ?_
        exact HW.ret ⟨rfl, _, [], .tmp rfl (.tmp rfl .nil), List.nil_sublist _, (by unfold OverlapF; simp [*]; first | rfl | skip), rfl⟩
    · skip
      refine Plan.not rfl rfl rfl ?_
      refine Plan.pick (v := .bool _) rfl rfl rfl rfl ?_
      refine Plan.done ?_
      refine HW.cond_true rfl ?_
      refine HW.seq (HW.region [(0, .st), (1, .st)] rfl rfl ?_)
      refine Plan.assign (v := .bool _) rfl rfl rfl ?_
      refine Plan.assign (v := .int _ _) rfl rfl rfl ?_
      refine Plan.done ?_
      exact HW.ret ⟨rfl, _, [], .tmp rfl (.tmp rfl .nil), List.nil_sublist _, (by unfold OverlapF; simp [*]; first | rfl | skip), rfl⟩
  · skip
    refine Plan.not rfl rfl rfl ?_
    refine Plan.move (v := .bool _) rfl rfl rfl ?_
    refine Plan.no rfl rfl ?_
    refine Plan.noE rfl rfl ?_
    refine Plan.no rfl rfl ?_
    refine Plan.pick (v := .bool _) rfl rfl rfl rfl ?_
    refine Plan.done ?_
    refine HW.cond_true rfl ?_
    refine HW.seq (HW.region [(0, .st), (1, .st)] rfl rfl ?_)
    refine Plan.assign (v := .bool _) rfl rfl rfl ?_
    refine Plan.assign (v := .int _ _) rfl rfl rfl ?_
    refine Plan.done ?_
    exact HW.ret ⟨rfl, _, [], .tmp rfl (.tmp rfl .nil), List.nil_sublist _, (by unfold OverlapF; simp [*]; first | rfl | skip), rfl⟩

end Go.Proofs.Ytjmklbkcpjmcaaa.V
