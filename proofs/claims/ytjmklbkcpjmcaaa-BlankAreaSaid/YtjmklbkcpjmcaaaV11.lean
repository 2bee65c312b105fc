/-
  sum, Sum.
-/
import Derived.Test.YtjmklbkcpjmcaaaV16
namespace Go.Proofs.Ytjmklbkcpjmcaaa.V
open Go Go.RowKit Go.Proofs.Ytjmklbkcpjmcaaa.H
set_option linter.unusedVariables false
set_option linter.unusedSimpArgs false

structure SmG where
  i : Nat
  k : Nat
  at' : Pt
  o : Option Nat
  c : Nat
  out : List Pt

theorem tmodN (i n : Nat) : Int.tmod (i : Int) (n : Int) = ((i % n : Nat) : Int) := by
  rw [Int.tmod_eq_emod_of_nonneg (by omega), Int.natCast_emod]

set_option maxRecDepth 10000 in
set_option maxHeartbeats 2000000 in
theorem sum_ct (a b : Addr) (p q : List Pt) (n1 c1 n2 c2 : Nat) (w : World) (hp : Rd enc 2 w (some a) p) (hq : Rd enc 2 w (some b) q) (hn1 : n1 = p.length) (hn2 : n2 = q.length) (h01 : 0 < p.length) (h02 : 0 < q.length)
    (hl1 : p.length ≤ 1000000) (hl2 : q.length ≤ 1000000) (hb1 : ∀ v ∈ p, Bd2 100000 v.1 v.2) (hb2 : ∀ v ∈ q, Bd2 100000 v.1 v.2) :
    Ct P 76 #[.slice (some a) n1 c1, .slice (some b) n2 c2] w [] (fun r L => ∃ o c', r = slv o (sumF p q).length c' ∧ L = [ownV o c' (sumF p q)]) := by
  subst hn1 hn2
  have hz1 : (0 : Nat) % p.length = 0 := Nat.zero_mod _
  have hz2 : (0 : Nat) % q.length = 0 := Nat.zero_mod _
  refine Ct.of_body (rs := [.tmp 4]) (N := 107) (L := []) Try.func76 rfl rfl rfl (by kernel_rfl) rfl (Mem.refl w) ?_
  refine HW.seq (HW.region [(0, .st)] rfl rfl ?_)
  refine Plan.assign (v := .slice _ _ _) rfl rfl rfl ?_
  refine Plan.done ?_
  refine HW.seq (HW.region_any [8] [(0, .st), (1, .st), (2, .st), (3, .st), (4, .st), (5, .st), (6, .ef), (7, .al), (8, .ef)] mix (by kernel_rfl) (fun _ _ _ _ _ h => h) (zeros rfl) ?_)
  refine Plan.move (v := .slice _ _ _) rfl rfl rfl ?_
  refine Plan.indexN (0) rfl rfl slV sizV rfl rfl rfl rfl (h01) ?_
  refine Plan.loadAgg rfl rfl aggV sizV rfl (Sees.rd hp rfl 0 h01) rfl ?_
  refine Plan.move (v := .slice _ _ _) rfl rfl rfl ?_
  refine Plan.indexN (0) rfl rfl slV sizV rfl rfl rfl rfl (h02) ?_
  refine Plan.loadAgg rfl rfl aggV sizV rfl (Sees.rd hq rfl 0 h02) rfl ?_
  refine Plan.callF [] 0 rfl rfl rfl (.inl rfl) (by simp) (fun w hm => plus_ct _ _ _ _ w ((hb1 _ (List.getElem_mem h01)).mono (by omega)) ((hb2 _ (List.getElem_mem h02)).mono (by omega))) ?_   -- tinplate/convex.plus
  rintro v Ln ⟨rfl, rfl⟩
  refine Plan.alloc rfl zerV fun b5 => ?_
  refine Plan.storeA 0 rfl rfl (hDs (by decide)) sizV rfl rfl rfl rfl rfl rfl ?_
  refine Plan.done ?_
  refine HW.seq (HW.region [(0, .ef), (1, .st)] rfl rfl ?_)
  refine Plan.buildOwn (xs := ([] : List Pt)) (enc := enc) (sz := 2) rfl rfl rfl (bs0) rfl rfl (by simp) rfl fun b19 => ?_
  refine Plan.assign (v := .slice _ _ _) rfl rfl rfl ?_
  refine Plan.done ?_
  refine HW.seq ?_
  refine HW.seq (HW.region [(0, .st), (1, .st)] rfl rfl ?_)
  refine Plan.assign (v := .int _ _) rfl rfl rfl ?_
  refine Plan.assign (v := .int _ _) rfl rfl rfl ?_
  refine Plan.done ?_
  refine HW.block ?_
  refine HW.loopL (G := SmG) [6, 7, 8, 9, 10, 11, 20, 21, 22, 23, 24, 25, 26, 27, 28, 29, 30, 31, 32, 33, 34, 35, 36, 37, 38, 39, 40, 41, 42, 43, 44, 45, 46, 47, 48, 49, 50, 51, 52, 53, 54, 55, 56, 57, 58, 59, 60, 61, 62, 63, 64, 65, 66, 67, 68, 69, 70, 71, 72, 73, 74, 75, 76, 77, 78, 79, 80, 81, 82, 83, 84, 85, 86, 87, 88, 89, 90, 91, 92, 93, 94, 95, 96, 97, 98, 99, 100, 101, 102, 103, 104, 105] (fun g => [(7, int g.i), (8, int g.k), (6, slv g.o g.out.length g.c)]) (fun g => [ownV g.o g.c g.out, Res.blk b5 #[int g.at'.1, int g.at'.2] 52]) (fun g => g.i ≤ p.length ∧ g.k ≤ q.length ∧ g.at' = sumPt p q g.i g.k ∧ g.out.length ≤ g.i + g.k ∧ ∃ fuel, p.length + q.length ≤ fuel + g.i + g.k ∧ g.out ++ sumR p q fuel g.i g.k = sumF p q) (fun g => p.length + q.length - g.i - g.k) (⟨0, 0, (p[0].1 + q[0].1, p[0].2 + q[0].2), some b19, 0, []⟩) ⟨rfl, rfl, rfl, trivial⟩ (Ent.refl _ _) (⟨Nat.zero_le _, Nat.zero_le _, by simp only [sumPt, hz1, hz2, nth_get h01, nth_get h02, vAdd], Nat.le_refl _, p.length + q.length, Nat.le_refl _, rfl⟩) (fun g F hok => ?_)
  obtain ⟨i, k, at1, o, c, out⟩ := g
  obtain ⟨hi, hk, hat, hol, fuel, hfu, hout⟩ := hok
  simp only at hi hk hat hol hfu hout
  dsimp only
  refine HW.mid (G := Unit) [20, 21, 22, 23, 24, 25, 26, 27, 28, 29] (fun g => []) (fun g => [ownV o c out, Res.blk b5 #[int at1.1, int at1.2] 52]) (fun g => i < p.length ∨ k < q.length) ?_ (fun g F hmid => ?_)
  · skip
    refine HW.seq (HW.region [(0, .st), (1, .st), (2, .st), (3, .st), (4, .st), (5, .st), (6, .st), (7, .st), (8, .st), (9, .st)] rfl rfl ?_)
    refine Plan.move (v := .int _ _) rfl rfl rfl ?_
    refine Plan.move (v := .slice _ _ _) rfl rfl rfl ?_
    refine Plan.len rfl rfl slV rfl ?_
    refine Plan.cmp2 rfl rfl rfl rfl rfl (fun h23 => ?_) (fun h23 => ?_)
    · replace h23 := of_decide_eq_true h23
      refine Plan.move (v := .bool _) rfl rfl rfl ?_
      refine Plan.no rfl rfl ?_
      refine Plan.no rfl rfl ?_
      refine Plan.no rfl rfl ?_
      refine Plan.no rfl rfl ?_
      refine Plan.pick (v := .bool _) rfl rfl rfl rfl ?_
      refine Plan.done ?_
      refine HW.cond_true rfl ?_
      refine HW.skip ?_
      exact ⟨(), by omega, rfl, Ent.refl _ _, (by repeat (first | exact Agree.refl _ _ | exact Agree.havoc _ _ _ | refine Agree.updN ?_ | refine Agree.upd rfl ?_ | refine Agree.updL rfl ?_ | refine Agree.havoc2 rfl ?_)), ⟨⟩⟩
    · replace h23 := of_decide_eq_false h23
      refine Plan.move (v := .bool _) rfl rfl rfl ?_
      refine Plan.move (v := .int _ _) rfl rfl rfl ?_
      refine Plan.move (v := .slice _ _ _) rfl rfl rfl ?_
      refine Plan.len rfl rfl slV rfl ?_
      refine Plan.cmp2 rfl rfl rfl rfl rfl (fun h28 => ?_) (fun h28 => ?_)
      · replace h28 := of_decide_eq_true h28
        refine Plan.pick (v := .bool _) rfl rfl rfl rfl ?_
        refine Plan.done ?_
        refine HW.cond_true rfl ?_
        refine HW.skip ?_
        exact ⟨(), by omega, rfl, Ent.refl _ _, (by repeat (first | exact Agree.refl _ _ | exact Agree.havoc _ _ _ | refine Agree.updN ?_ | refine Agree.upd rfl ?_ | refine Agree.updL rfl ?_ | refine Agree.havoc2 rfl ?_)), ⟨⟩⟩
      · replace h28 := of_decide_eq_false h28
        refine Plan.pick (v := .bool _) rfl rfl rfl rfl ?_
        refine Plan.done ?_
        refine HW.cond_false rfl ?_
        refine HW.exit ?_
        have hfin : out = sumF p q := by
          cases fuel with
          | zero => simpa [sumR] using hout
          | succ f => rw [sumR, if_neg (by omega)] at hout; simpa using hout
        refine HW.seq (HW.region [(0, .st), (1, .st)] rfl rfl ?_)
        refine Plan.move (v := .slice _ _ _) rfl rfl rfl ?_
        refine Plan.assign (v := .slice _ _ _) rfl rfl rfl ?_
        refine Plan.done ?_
        exact HW.ret ⟨rfl, _, [ownV o c out], .tmp rfl .nil, .cons_cons _ (List.nil_sublist _), o, c, (by rw [← hfin]; rfl), by rw [hfin]⟩
  · skip
    have hor : i < p.length ∨ k < q.length := hmid
    have m1 : (i + 1) % p.length < p.length := Nat.mod_lt _ h01
    have m2 : i % p.length < p.length := Nat.mod_lt _ h01
    have m3 : (k + 1) % q.length < q.length := Nat.mod_lt _ h02
    have m4 : k % q.length < q.length := Nat.mod_lt _ h02
    have t1 := tmodN (i + 1) p.length
    have t2 := tmodN i p.length
    have t3 := tmodN (k + 1) q.length
    have t4 := tmodN k q.length
    obtain ⟨fuel, rfl⟩ : ∃ f, fuel = f + 1 := ⟨fuel - 1, by omega⟩
    rw [sumR, if_pos hor, ← hat] at hout
    obtain ⟨⟨x1, x2⟩, ⟨x3, x4⟩⟩ := hb1 _ (List.getElem_mem m1)
    obtain ⟨⟨x5, x6⟩, ⟨x7, x8⟩⟩ := hb1 _ (List.getElem_mem m2)
    obtain ⟨⟨y1, y2⟩, ⟨y3, y4⟩⟩ := hb2 _ (List.getElem_mem m3)
    obtain ⟨⟨y5, y6⟩, ⟨y7, y8⟩⟩ := hb2 _ (List.getElem_mem m4)
    have e1 : ed p i = (p[(i + 1) % p.length].1 - p[i % p.length].1, p[(i + 1) % p.length].2 - p[i % p.length].2) := by rw [ed, nth_get m1, nth_get m2, vSub]
    have e2 : ed q k = (q[(k + 1) % q.length].1 - q[k % q.length].1, q[(k + 1) % q.length].2 - q[k % q.length].2) := by rw [ed, nth_get m3, nth_get m4, vSub]
    have e3 : at1 = (p[i % p.length].1 + q[k % q.length].1, p[i % p.length].2 + q[k % q.length].2) := by rw [hat, sumPt, nth_get m2, nth_get m4, vAdd]
    have e4 : at1.1 = p[i % p.length].1 + q[k % q.length].1 := by rw [e3]
    have e5 : at1.2 = p[i % p.length].2 + q[k % q.length].2 := by rw [e3]
    have n1 : sumPt p q (i + 1) k = (at1.1 + (p[(i + 1) % p.length].1 - p[i % p.length].1), at1.2 + (p[(i + 1) % p.length].2 - p[i % p.length].2)) := by
      rw [sumPt, nth_get m1, nth_get m4, vAdd]; exact Prod.ext (by simp only; omega) (by simp only; omega)
    have n2 : sumPt p q i (k + 1) = (at1.1 + (q[(k + 1) % q.length].1 - q[k % q.length].1), at1.2 + (q[(k + 1) % q.length].2 - q[k % q.length].2)) := by
      rw [sumPt, nth_get m2, nth_get m3, vAdd]; exact Prod.ext (by simp only; omega) (by simp only; omega)
    have n3 : sumPt p q (i + 1) (k + 1) = (at1.1 + (p[(i + 1) % p.length].1 - p[i % p.length].1) + (q[(k + 1) % q.length].1 - q[k % q.length].1), at1.2 + (p[(i + 1) % p.length].2 - p[i % p.length].2) + (q[(k + 1) % q.length].2 - q[k % q.length].2)) := by
      rw [sumPt, nth_get m1, nth_get m3, vAdd]; exact Prod.ext (by simp only; omega) (by simp only; omega)
    refine HW.block ?_
    refine HW.seq (HW.region [(0, .st), (1, .st), (2, .ef), (3, .ef), (4, .st)] rfl rfl ?_)
    refine Plan.move (v := .slice _ _ _) rfl rfl rfl ?_
    refine Plan.loadAll 1 rfl rfl aggV sizV rfl rfl rfl ?_
    refine Plan.buildOwn (xs := [at1]) (enc := enc) (sz := 2) rfl rfl rfl (bs1 _ _) rfl rfl (by simp) rfl fun b32 => ?_
    refine Plan.append (enc := enc) (sz := 2) (ys := [at1]) (1) rfl rfl hDn slV infV rfl (by decide) enc2 enc1 rfl rfl rfl rfl rfl (Sees.ownAll 0 rfl b32 rfl) (by simp; omega) (by simp; omega) fun o33 c33 => ?_
    refine Plan.assign (v := .slice _ _ _) rfl rfl rfl ?_
    refine Plan.done ?_
    refine HW.mid (G := Nat × Nat) [9, 10, 34, 35, 36, 37, 38, 39, 40, 41, 42, 43, 44, 45, 46, 47, 48, 49, 50, 51, 52, 53, 54, 55, 56, 57, 58, 59, 60, 61, 62, 63, 64, 65] (fun g => [(9, .pointer (some ⟨g.1, 0, none⟩)), (10, .pointer (some ⟨g.2, 0, none⟩))]) (fun g => [Res.blk g.2 #[int (q[(k + 1) % q.length].1 - q[k % q.length].1), int (q[(k + 1) % q.length].2 - q[k % q.length].2)] 52, Res.blk g.1 #[int (p[(i + 1) % p.length].1 - p[i % p.length].1), int (p[(i + 1) % p.length].2 - p[i % p.length].2)] 52, ownV (some b32) 1 [at1], ownV o33 c33 (out ++ [at1]), Res.blk b5 #[int at1.1, int at1.2] 52]) (fun g => True) ?_ (fun g F hmid => ?_)
    · skip
      refine HW.region_any [34, 35] [(0, .st), (1, .st), (2, .st), (3, .st), (4, .st), (5, .st), (6, .st), (7, .st), (8, .st), (9, .st), (10, .st), (11, .st), (12, .st), (13, .st), (14, .st), (16, .st), (17, .st), (18, .st), (19, .st), (20, .st), (21, .st), (22, .st), (23, .st), (24, .st), (25, .st), (26, .st), (27, .st), (28, .st), (29, .st), (30, .st), (15, .ef), (31, .ef), (32, .al), (33, .al), (34, .ef), (35, .ef)] mix (by kernel_rfl) (fun _ _ _ _ _ h => h) (zeros rfl) ?_
      refine Plan.move (v := .slice _ _ _) rfl rfl rfl ?_
      refine Plan.move (v := .int _ _) rfl rfl rfl ?_
      refine Plan.arithI rfl rfl rfl rfl rfl (by omega) ?_
      refine Plan.move (v := .slice _ _ _) rfl rfl rfl ?_
      refine Plan.len rfl rfl slV rfl ?_
      refine Plan.rem rfl rfl rfl rfl (by omega) ?_
      refine Plan.indexN ((i + 1) % p.length) rfl rfl slV sizV rfl rfl rfl t1 (m1) ?_
      refine Plan.loadAgg rfl rfl aggV sizV rfl (Sees.rd hp rfl _ m1) rfl ?_
      refine Plan.move (v := .slice _ _ _) rfl rfl rfl ?_
      refine Plan.move (v := .int _ _) rfl rfl rfl ?_
      refine Plan.move (v := .slice _ _ _) rfl rfl rfl ?_
      refine Plan.len rfl rfl slV rfl ?_
      refine Plan.rem rfl rfl rfl rfl (by omega) ?_
      refine Plan.indexN (i % p.length) rfl rfl slV sizV rfl rfl rfl t2 (m2) ?_
      refine Plan.loadAgg rfl rfl aggV sizV rfl (Sees.rd hp rfl _ m2) rfl ?_
      refine Plan.move (v := .slice _ _ _) rfl rfl rfl ?_
      refine Plan.move (v := .int _ _) rfl rfl rfl ?_
      refine Plan.arithI rfl rfl rfl rfl rfl (by omega) ?_
      refine Plan.move (v := .slice _ _ _) rfl rfl rfl ?_
      refine Plan.len rfl rfl slV rfl ?_
      refine Plan.rem rfl rfl rfl rfl (by omega) ?_
      refine Plan.indexN ((k + 1) % q.length) rfl rfl slV sizV rfl rfl rfl t3 (m3) ?_
      refine Plan.loadAgg rfl rfl aggV sizV rfl (Sees.rd hq rfl _ m3) rfl ?_
      refine Plan.move (v := .slice _ _ _) rfl rfl rfl ?_
      refine Plan.move (v := .int _ _) rfl rfl rfl ?_
      refine Plan.move (v := .slice _ _ _) rfl rfl rfl ?_
      refine Plan.len rfl rfl slV rfl ?_
      refine Plan.rem rfl rfl rfl rfl (by omega) ?_
      refine Plan.indexN (k % q.length) rfl rfl slV sizV rfl rfl rfl t4 (m4) ?_
      refine Plan.loadAgg rfl rfl aggV sizV rfl (Sees.rd hq rfl _ m4) rfl ?_
      refine Plan.callF [] 0 rfl rfl rfl (.inl rfl) (by simp) (fun w hm => minus_ct _ _ _ _ w ((hb1 _ (List.getElem_mem m1)).mono (by omega)) ((hb1 _ (List.getElem_mem m2)).mono (by omega))) ?_   -- tinplate/convex.minus
      rintro v Ln ⟨rfl, rfl⟩
      refine Plan.callF [] 0 rfl rfl rfl (.inl rfl) (by simp) (fun w hm => minus_ct _ _ _ _ w ((hb2 _ (List.getElem_mem m3)).mono (by omega)) ((hb2 _ (List.getElem_mem m4)).mono (by omega))) ?_   -- tinplate/convex.minus
      rintro v Ln ⟨rfl, rfl⟩
      refine Plan.alloc rfl zerV fun b9 => ?_
      refine Plan.alloc rfl zerV fun b10 => ?_
      refine Plan.storeA 1 rfl rfl (hDs (by decide)) sizV rfl rfl rfl rfl rfl rfl ?_
      refine Plan.storeA 0 rfl rfl (hDs (by decide)) sizV rfl rfl rfl rfl rfl rfl ?_
      refine Plan.done ?_
      exact ⟨(b9, b10), trivial, rfl, Ent.refl _ _, (by repeat (first | exact Agree.refl _ _ | exact Agree.havoc _ _ _ | refine Agree.updN ?_ | refine Agree.upd rfl ?_ | refine Agree.updL rfl ?_ | refine Agree.havoc2 rfl ?_)), ⟨rfl, rfl, trivial⟩⟩
    · skip
      obtain ⟨b9, b10⟩ := g
      dsimp only
      refine HW.seq (HW.region [(0, .st), (1, .st), (2, .ef), (3, .st)] rfl rfl ?_)
      refine Plan.loadAll 1 rfl rfl aggV sizV rfl rfl rfl ?_
      refine Plan.loadAll 0 rfl rfl aggV sizV rfl rfl rfl ?_
      refine Plan.callF [] 0 rfl rfl rfl (.inl rfl) (by simp) (fun w hm => cross_ct _ _ _ _ w ⟨⟨by omega, by omega⟩, ⟨by omega, by omega⟩⟩ ⟨⟨by omega, by omega⟩, ⟨by omega, by omega⟩⟩) ?_   -- tinplate/convex.cross
      rintro v Ln ⟨rfl, rfl⟩
      obtain ⟨cc, hcc⟩ : ∃ cc, cc = crossI (p[(i + 1) % p.length].1 - p[i % p.length].1) (p[(i + 1) % p.length].2 - p[i % p.length].2) (q[(k + 1) % q.length].1 - q[k % q.length].1) (q[(k + 1) % q.length].2 - q[k % q.length].2) := ⟨_, rfl⟩
      have hc2 : crossP (ed p i) (ed q k) = cc := by rw [e1, e2, hcc]; rfl
      rw [hc2] at hout
      rw [← hcc]
      refine Plan.assign (v := .int _ _) rfl rfl rfl ?_
      refine Plan.done ?_
      refine HW.seq ?_
      refine HW.mid (G := Bool) [69, 70, 71, 72, 73, 74, 75, 76, 77, 78, 79, 80, 81, 82] (fun g => [(82, .bool g)]) (fun g => [Res.blk b10 #[int (q[(k + 1) % q.length].1 - q[k % q.length].1), int (q[(k + 1) % q.length].2 - q[k % q.length].2)] 52, Res.blk b9 #[int (p[(i + 1) % p.length].1 - p[i % p.length].1), int (p[(i + 1) % p.length].2 - p[i % p.length].2)] 52, ownV (some b32) 1 [at1], ownV o33 c33 (out ++ [at1]), Res.blk b5 #[int at1.1, int at1.2] 52]) (fun g => g = decide (k = q.length ∨ (i < p.length ∧ 0 ≤ cc))) ?_ (fun g F hmid => ?_)
      · skip
        refine HW.region [(0, .st), (1, .st), (2, .st), (3, .st), (4, .st), (5, .st), (6, .st), (7, .st), (8, .st), (9, .st), (10, .st), (11, .st), (12, .st), (13, .st)] rfl rfl ?_
        refine Plan.move (v := .int _ _) rfl rfl rfl ?_
        refine Plan.move (v := .slice _ _ _) rfl rfl rfl ?_
        refine Plan.len rfl rfl slV rfl ?_
        refine Plan.cmp2 rfl rfl rfl rfl rfl (fun h72 => ?_) (fun h72 => ?_)
        · replace h72 := of_decide_eq_true h72
          refine Plan.move (v := .bool _) rfl rfl rfl ?_
          refine Plan.no rfl rfl ?_
          refine Plan.no rfl rfl ?_
          refine Plan.no rfl rfl ?_
          refine Plan.no rfl rfl ?_
          refine Plan.no rfl rfl ?_
          refine Plan.no rfl rfl ?_
          refine Plan.no rfl rfl ?_
          refine Plan.no rfl rfl ?_
          refine Plan.pick (v := .bool _) rfl rfl rfl rfl ?_
          refine Plan.done ?_
          exact ⟨true, (decide_eq_true (by omega)).symm, rfl, Ent.refl _ _, (by repeat (first | exact Agree.refl _ _ | exact Agree.havoc _ _ _ | refine Agree.updN ?_ | refine Agree.upd rfl ?_ | refine Agree.updL rfl ?_ | refine Agree.havoc2 rfl ?_)), ⟨rfl, trivial⟩⟩
        · replace h72 := of_decide_eq_false h72
          refine Plan.move (v := .bool _) rfl rfl rfl ?_
          refine Plan.move (v := .int _ _) rfl rfl rfl ?_
          refine Plan.move (v := .slice _ _ _) rfl rfl rfl ?_
          refine Plan.len rfl rfl slV rfl ?_
          refine Plan.cmp2 rfl rfl rfl rfl rfl (fun h77 => ?_) (fun h77 => ?_)
          · replace h77 := of_decide_eq_true h77
            refine Plan.move (v := .bool _) rfl rfl rfl ?_
            refine Plan.move (v := .int _ _) rfl rfl rfl ?_
            refine Plan.cmp2 rfl rfl rfl rfl rfl (fun h80 => ?_) (fun h80 => ?_)
            · replace h80 := of_decide_eq_true h80
              refine Plan.pick (v := .bool _) rfl rfl rfl rfl ?_
              refine Plan.pick (v := .bool _) rfl rfl rfl rfl ?_
              refine Plan.done ?_
              exact ⟨true, (decide_eq_true (by omega)).symm, rfl, Ent.refl _ _, (by repeat (first | exact Agree.refl _ _ | exact Agree.havoc _ _ _ | refine Agree.updN ?_ | refine Agree.upd rfl ?_ | refine Agree.updL rfl ?_ | refine Agree.havoc2 rfl ?_)), ⟨rfl, trivial⟩⟩
            · replace h80 := of_decide_eq_false h80
              refine Plan.pick (v := .bool _) rfl rfl rfl rfl ?_
              refine Plan.pick (v := .bool _) rfl rfl rfl rfl ?_
              refine Plan.done ?_
              exact ⟨false, (decide_eq_false (by omega)).symm, rfl, Ent.refl _ _, (by repeat (first | exact Agree.refl _ _ | exact Agree.havoc _ _ _ | refine Agree.updN ?_ | refine Agree.upd rfl ?_ | refine Agree.updL rfl ?_ | refine Agree.havoc2 rfl ?_)), ⟨rfl, trivial⟩⟩
          · replace h77 := of_decide_eq_false h77
            refine Plan.move (v := .bool _) rfl rfl rfl ?_
            refine Plan.no rfl rfl ?_
            refine Plan.no rfl rfl ?_
            refine Plan.pick (v := .bool _) rfl rfl rfl rfl ?_
            refine Plan.pick (v := .bool _) rfl rfl rfl rfl ?_
            refine Plan.done ?_
            exact ⟨false, (decide_eq_false (by omega)).symm, rfl, Ent.refl _ _, (by repeat (first | exact Agree.refl _ _ | exact Agree.havoc _ _ _ | refine Agree.updN ?_ | refine Agree.upd rfl ?_ | refine Agree.updL rfl ?_ | refine Agree.havoc2 rfl ?_)), ⟨rfl, trivial⟩⟩
      · skip
        refine HW.cond _ rfl (fun hc => ?_) (fun hc => ?_)
        · skip
          have hcond : k = q.length ∨ (i < p.length ∧ 0 ≤ cc) := by rw [hmid] at hc; exact of_decide_eq_true hc
          rw [if_pos hcond] at hout
          refine HW.seq (HW.region [(0, .st), (1, .st), (2, .ef), (3, .ef)] rfl rfl ?_)
          refine Plan.loadAll 4 rfl rfl aggV sizV rfl rfl rfl ?_
          refine Plan.loadAll 1 rfl rfl aggV sizV rfl rfl rfl ?_
          refine Plan.callF [] 0 rfl rfl rfl (.inl rfl) (by simp) (fun w hm => plus_ct _ _ _ _ w ⟨⟨by omega, by omega⟩, ⟨by omega, by omega⟩⟩ ⟨⟨by omega, by omega⟩, ⟨by omega, by omega⟩⟩) ?_   -- tinplate/convex.plus
          rintro v Ln ⟨rfl, rfl⟩
          refine Plan.storeA 4 rfl rfl hDn sizV rfl rfl rfl rfl rfl rfl ?_
          refine Plan.done ?_
          refine HW.seq (HW.region [(0, .st), (1, .st), (2, .st)] rfl rfl ?_)
          refine Plan.move (v := .int _ _) rfl rfl rfl ?_
          refine Plan.arithI rfl rfl rfl rfl rfl (by omega) ?_
          refine Plan.assign (v := .int _ _) rfl rfl rfl ?_
          refine Plan.done ?_
          refine HW.seq ?_
          refine HW.mid (G := Bool) [88, 89, 90, 91, 92, 93, 94, 95] (fun g => [(95, .bool g)]) (fun g => [Res.blk b10 #[int (q[(k + 1) % q.length].1 - q[k % q.length].1), int (q[(k + 1) % q.length].2 - q[k % q.length].2)] 52, Res.blk b9 #[int (p[(i + 1) % p.length].1 - p[i % p.length].1), int (p[(i + 1) % p.length].2 - p[i % p.length].2)] 52, ownV (some b32) 1 [at1], ownV o33 c33 (out ++ [at1]), Res.blk b5 #[int (at1.1 + (p[(i + 1) % p.length].1 - p[i % p.length].1)), int (at1.2 + (p[(i + 1) % p.length].2 - p[i % p.length].2))] 52]) (fun g => g = decide (k < q.length ∧ cc = 0)) ?_ (fun g F hmid => ?_)
          · skip
            refine HW.region [(0, .st), (1, .st), (2, .st), (3, .st), (4, .st), (5, .st), (6, .st), (7, .st)] rfl rfl ?_
            refine Plan.move (v := .int _ _) rfl rfl rfl ?_
            refine Plan.move (v := .slice _ _ _) rfl rfl rfl ?_
            refine Plan.len rfl rfl slV rfl ?_
            refine Plan.cmp2 rfl rfl rfl rfl rfl (fun h91 => ?_) (fun h91 => ?_)
            · replace h91 := of_decide_eq_true h91
              refine Plan.move (v := .bool _) rfl rfl rfl ?_
              refine Plan.move (v := .int _ _) rfl rfl rfl ?_
              refine Plan.cmp2 rfl rfl rfl rfl rfl (fun h94 => ?_) (fun h94 => ?_)
              · replace h94 := of_decide_eq_true h94
                refine Plan.pick (v := .bool _) rfl rfl rfl rfl ?_
                refine Plan.done ?_
                exact ⟨true, (decide_eq_true (by omega)).symm, rfl, Ent.refl _ _, (by repeat (first | exact Agree.refl _ _ | exact Agree.havoc _ _ _ | refine Agree.updN ?_ | refine Agree.upd rfl ?_ | refine Agree.updL rfl ?_ | refine Agree.havoc2 rfl ?_)), ⟨rfl, trivial⟩⟩
              · replace h94 := of_decide_eq_false h94
                refine Plan.pick (v := .bool _) rfl rfl rfl rfl ?_
                refine Plan.done ?_
                exact ⟨false, (decide_eq_false (by omega)).symm, rfl, Ent.refl _ _, (by repeat (first | exact Agree.refl _ _ | exact Agree.havoc _ _ _ | refine Agree.updN ?_ | refine Agree.upd rfl ?_ | refine Agree.updL rfl ?_ | refine Agree.havoc2 rfl ?_)), ⟨rfl, trivial⟩⟩
            · replace h91 := of_decide_eq_false h91
              refine Plan.move (v := .bool _) rfl rfl rfl ?_
              refine Plan.no rfl rfl ?_
              refine Plan.no rfl rfl ?_
              refine Plan.pick (v := .bool _) rfl rfl rfl rfl ?_
              refine Plan.done ?_
              exact ⟨false, (decide_eq_false (by omega)).symm, rfl, Ent.refl _ _, (by repeat (first | exact Agree.refl _ _ | exact Agree.havoc _ _ _ | refine Agree.updN ?_ | refine Agree.upd rfl ?_ | refine Agree.updL rfl ?_ | refine Agree.havoc2 rfl ?_)), ⟨rfl, trivial⟩⟩
          · skip
            refine HW.cond _ rfl (fun hc => ?_) (fun hc => ?_)
            · skip
              have hcond2 : k < q.length ∧ cc = 0 := by rw [hmid] at hc; exact of_decide_eq_true hc
              rw [if_pos hcond2] at hout
              refine HW.seq (HW.region [(0, .st), (1, .st), (2, .ef), (3, .ef)] rfl rfl ?_)
              refine Plan.loadAll 4 rfl rfl aggV sizV rfl rfl rfl ?_
              refine Plan.loadAll 0 rfl rfl aggV sizV rfl rfl rfl ?_
              refine Plan.callF [] 0 rfl rfl rfl (.inl rfl) (by simp) (fun w hm => plus_ct _ _ _ _ w ⟨⟨by omega, by omega⟩, ⟨by omega, by omega⟩⟩ ⟨⟨by omega, by omega⟩, ⟨by omega, by omega⟩⟩) ?_   -- tinplate/convex.plus
              rintro v Ln ⟨rfl, rfl⟩
              refine Plan.storeA 4 rfl rfl hDn sizV rfl rfl rfl rfl rfl rfl ?_
              refine Plan.done ?_
              refine HW.region [(0, .st), (1, .st), (2, .st)] rfl rfl ?_
              refine Plan.move (v := .int _ _) rfl rfl rfl ?_
              refine Plan.arithI rfl rfl rfl rfl rfl (by omega) ?_
              refine Plan.assign (v := .int _ _) rfl rfl rfl ?_
              refine Plan.done ?_
              refine HW.exit ?_
              exact ⟨⟨i + 1, k + 1, (at1.1 + (p[(i + 1) % p.length].1 - p[i % p.length].1) + (q[(k + 1) % q.length].1 - q[k % q.length].1), at1.2 + (p[(i + 1) % p.length].2 - p[i % p.length].2) + (q[(k + 1) % q.length].2 - q[k % q.length].2)), o33, c33, out ++ [at1]⟩, by simp only; omega, ⟨by simp only; omega, by simp only; omega, n3.symm, by simp; omega, fuel, by simp only; omega, by simp only [List.append_assoc]; exact hout⟩, rfl, Ent.sub (.cons _ (.cons _ (.cons _ (.refl _)))), (by repeat (first | exact Agree.havoc _ _ _ | refine Agree.updN ?_ | refine Agree.upd rfl ?_ | refine Agree.updL rfl ?_ | refine Agree.havoc2 rfl ?_)), ⟨rfl, rfl, slv_eq (by simp), trivial⟩⟩
            · skip
              have hcond2 : ¬ (k < q.length ∧ cc = 0) := by rw [hmid] at hc; exact of_decide_eq_false hc
              rw [if_neg hcond2] at hout
              refine HW.skip ?_
              refine HW.exit ?_
              exact ⟨⟨i + 1, k, (at1.1 + (p[(i + 1) % p.length].1 - p[i % p.length].1), at1.2 + (p[(i + 1) % p.length].2 - p[i % p.length].2)), o33, c33, out ++ [at1]⟩, by simp only; omega, ⟨by simp only; omega, by simp only; omega, n1.symm, by simp; omega, fuel, by simp only; omega, by simp only [List.append_assoc]; exact hout⟩, rfl, Ent.sub (.cons _ (.cons _ (.cons _ (.refl _)))), (by repeat (first | exact Agree.havoc _ _ _ | refine Agree.updN ?_ | refine Agree.upd rfl ?_ | refine Agree.updL rfl ?_ | refine Agree.havoc2 rfl ?_)), ⟨rfl, rfl, slv_eq (by simp), trivial⟩⟩
        · skip
          have hcond : ¬ (k = q.length ∨ (i < p.length ∧ 0 ≤ cc)) := by rw [hmid] at hc; exact of_decide_eq_false hc
          rw [if_neg hcond] at hout
          refine HW.skip ?_
          refine HW.seq (HW.region [(0, .st), (1, .st), (2, .ef), (3, .ef)] rfl rfl ?_)
          refine Plan.loadAll 4 rfl rfl aggV sizV rfl rfl rfl ?_
          refine Plan.loadAll 0 rfl rfl aggV sizV rfl rfl rfl ?_
          refine Plan.callF [] 0 rfl rfl rfl (.inl rfl) (by simp) (fun w hm => plus_ct _ _ _ _ w ⟨⟨by omega, by omega⟩, ⟨by omega, by omega⟩⟩ ⟨⟨by omega, by omega⟩, ⟨by omega, by omega⟩⟩) ?_   -- tinplate/convex.plus
          rintro v Ln ⟨rfl, rfl⟩
          refine Plan.storeA 4 rfl rfl hDn sizV rfl rfl rfl rfl rfl rfl ?_
          refine Plan.done ?_
          refine HW.region [(0, .st), (1, .st), (2, .st)] rfl rfl ?_
          refine Plan.move (v := .int _ _) rfl rfl rfl ?_
          refine Plan.arithI rfl rfl rfl rfl rfl (by omega) ?_
          refine Plan.assign (v := .int _ _) rfl rfl rfl ?_
          refine Plan.done ?_
          exact ⟨⟨i, k + 1, (at1.1 + (q[(k + 1) % q.length].1 - q[k % q.length].1), at1.2 + (q[(k + 1) % q.length].2 - q[k % q.length].2)), o33, c33, out ++ [at1]⟩, by simp only; omega, ⟨by simp only; omega, by simp only; omega, n2.symm, by simp; omega, fuel, by simp only; omega, by simp only [List.append_assoc]; exact hout⟩, rfl, Ent.sub (.cons _ (.cons _ (.cons _ (.refl _)))), (by repeat (first | exact Agree.havoc _ _ _ | refine Agree.updN ?_ | refine Agree.upd rfl ?_ | refine Agree.updL rfl ?_ | refine Agree.havoc2 rfl ?_)), ⟨rfl, rfl, slv_eq (by simp), trivial⟩⟩

end Go.Proofs.Ytjmklbkcpjmcaaa.V
