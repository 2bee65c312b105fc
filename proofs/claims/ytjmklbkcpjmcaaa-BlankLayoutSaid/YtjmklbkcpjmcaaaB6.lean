/-
  Package blank: the cutter, worth.
-/
import Derived.Test.YtjmklbkcpjmcaaaB5
namespace Go.Proofs.Ytjmklbkcpjmcaaa.V
open Go Go.RowKit Go.Proofs.Ytjmklbkcpjmcaaa.H Go.Proofs.Ytjmklbkcpjmcaaa.LL
set_option linter.unusedVariables false
set_option linter.unusedSimpArgs false

theorem W_bd {l : List It} (hl : l.any badI = false) : ∀ (n a b : Nat), a + b ≤ n → 0 < a → 0 < b → W l a b ≤ 1048576 * ((a : Int) * b)
  | 0, a, b, hn, ha, hb => by omega
  | n + 1, a, b, hn, ha, hb => by
    have hab : 1 ≤ (a : Int) * b := by
      have : 0 < a * b := Nat.mul_pos ha hb
      have h2 : ((a * b : Nat) : Int) = (a : Int) * b := by push_cast; rfl
      omega
    refine (W_le l ha hb).2 ⟨by omega, fun i hi hf => ?_, fun x h1 h2 => ?_, fun y h1 h2 => ?_⟩
    · have := List.any_eq_false.1 hl i hi
      simp only [badI, decide_eq_true_eq] at this
      omega
    · have e1 := W_bd hl n x b (by omega) h1 hb
      have e2 := W_bd hl n (a - x) b (by omega) (by omega) hb
      have e3 : ((a - x : Nat) : Int) * b = (a : Int) * b - (x : Int) * b := by rw [Int.ofNat_sub (by omega), Int.sub_mul]
      omega
    · have e1 := W_bd hl n a y (by omega) ha h1
      have e2 := W_bd hl n a (b - y) (by omega) ha (by omega)
      have e3 : (a : Int) * ((b - y : Nat) : Int) = (a : Int) * b - (a : Int) * y := by rw [Int.ofNat_sub (by omega), Int.mul_sub]
      omega

theorem W_bds {l : List It} (hl : l.any badI = false) {a b : Nat} (ha : 0 < a) (hb : 0 < b) (ha2 : a ≤ 100) (hb2 : b ≤ 100) : 0 ≤ W l a b ∧ W l a b ≤ 10485760000 := by
  refine ⟨(le_W l ha hb).1, ?_⟩
  have h1 := W_bd hl (a + b) a b (Nat.le_refl _) ha hb
  have h2 : a * b ≤ 100 * 100 := Nat.mul_le_mul ha2 hb2
  have h3 : ((a * b : Nat) : Int) = (a : Int) * b := by push_cast; rfl
  omega

/-- a map that holds worths and nothing else -/
def Known (l : List It) (kv : List (Pt × Int)) : Prop := ∀ e ∈ kv, ∃ a b : Nat, 0 < a ∧ 0 < b ∧ e = (((a : Int), (b : Int)), W l a b)
theorem Known.val {l : List It} {kv : List (Pt × Int)} (h : Known l kv) {a b : Nat} {v : Int} (hv : valAt ((a : Int), (b : Int)) kv = some v) : v = W l a b := by
  obtain ⟨a', b', _, _, he⟩ := h _ (valAt_mem hv)
  simp only [Prod.mk.injEq] at he
  obtain ⟨⟨h1, h2⟩, h3⟩ := he
  have h1 : a = a' := by omega
  have h2 : b = b' := by omega
  subst h1 h2
  exact h3
theorem Known.put {l : List It} {kv : List (Pt × Int)} (h : Known l kv) {a b : Nat} (ha : 0 < a) (hb : 0 < b) : Known l (putK ((a : Int), (b : Int)) (W l a b) kv) := fun e he => by
  rcases mem_putK he with he | rfl
  · exact h e he
  · exact ⟨a, b, ha, hb, rfl⟩

theorem bestI_take {l : List It} {a b : Nat} {k : Nat} (hk : k < l.length) : bestI (l.take (k + 1)) a b 0 = if fitsI l[k] a b then mx (bestI (l.take k) a b 0) l[k].2.2 else bestI (l.take k) a b 0 := by
  rw [List.take_add_one, List.getElem?_eq_getElem hk]
  simp only [bestI, List.foldl_append, Option.toList_some, List.foldl_cons, List.foldl_nil]

structure WG where
  k : Nat
  kv : List (Pt × Int)

/-- the contract of worth, for rectangles up to a size -/
def WorthAt (l : List It) (A : Option Addr) (c cb m N : Nat) : Prop := ∀ (a b : Nat) (kv : List (Pt × Int)) (w : World), a + b ≤ N → 0 < a → 0 < b → a ≤ 100 → b ≤ 100 → Rd encT 3 w A l →
  w.heap[cb]? = some (.cells #[.slice A l.length c, .map (some m)] 79 (0, 0)) → w.heap[m]? = some (.map (ents vc int 0 kv).toArray kv.length) → Known l kv →
  Ct P 48 #[.pointer (some ⟨cb, 0, none⟩), int a, int b] w [m] (fun r L => ∃ kv', Known l kv' ∧ r = int (W l a b) ∧ L = [Res.mp vc int m kv'])

theorem worth_step (l : List It) (A : Option Addr) (c cb m N : Nat) (hl : l.any badI = false) (hlen : l.length ≤ 10) (hcm : cb ≠ m) (ih : WorthAt l A c cb m N)
    (a b : Nat) (kv : List (Pt × Int)) (w : World) (hN : a + b ≤ N + 1) (ha : 0 < a) (hb : 0 < b) (ha2 : a ≤ 100) (hb2 : b ≤ 100) (hp : Rd encT 3 w A l)
    (hcb : w.heap[cb]? = some (.cells #[.slice A l.length c, .map (some m)] 79 (0, 0))) (hmp : w.heap[m]? = some (.map (ents vc int 0 kv).toArray kv.length)) (hkv : Known l kv) :
    Ct P 48 #[.pointer (some ⟨cb, 0, none⟩), int a, int b] w [m] (fun r L => ∃ kv', Known l kv' ∧ r = int (W l a b) ∧ L = [Res.mp vc int m kv']) := by
  refine Ct.of_body (rs := [.tmp 6]) (N := 92) (L := [Res.mp vc int m kv]) Try.func48 rfl rfl rfl (by kernel_rfl) rfl (Mem.ownMap hmp) ?_
  refine HW.seq (HW.region [(0, .st)] rfl rfl ?_)
  refine Plan.assign (v := .int _ _) rfl rfl rfl ?_
  refine Plan.done ?_
  refine HW.seq (HW.region [(0, .st), (1, .st), (2, .st), (3, .al), (4, .ef)] rfl rfl ?_)
  refine Plan.move (v := .int _ _) rfl rfl rfl ?_
  refine Plan.move (v := .int _ _) rfl rfl rfl ?_
  refine Plan.build rfl rfl rfl (fun w => bld2int ..) ?_
  refine Plan.alloc rfl zer2int fun b7 => ?_
  refine Plan.storeA 0 rfl rfl hDn siz2int rfl rfl rfl rfl rfl rfl ?_
  refine Plan.done ?_
  refine HW.seq ?_
  refine HW.seq (HW.region_any [] [(0, .st), (1, .st), (2, .st), (3, .st), (4, .st), (5, .st), (6, .st), (7, .st), (8, .st), (9, .st), (10, .st)] mix (by kernel_rfl) (fun _ _ _ _ _ h => h) (zeros rfl) ?_)
  refine Plan.move (v := .pointer _) rfl rfl rfl ?_
  refine Plan.nilCheck rfl rfl rfl ?_
  refine Plan.fieldAddr rfl rfl fldcutter1 rfl ?_
  refine Plan.load (v := .map _) rfl rfl aggMap_2_int_int rfl (Sees.oldOne hcb (by simpa using hcm) rfl) ?_
  refine Plan.loadAll 0 rfl rfl agg2int siz2int rfl rfl rfl ?_
  refine Plan.lookupOk (1) (keys2) (ek := vc) (ev' := int) (k := ((a : Int), (b : Int))) undMap_2_int_int (zerI) rfl rfl rfl rfl rfl (fun v24 hv24 => ?_) (fun hv24 => ?_)
  · skip
    obtain rfl := hkv.val hv24
    refine Plan.move (v := .tuple _) rfl rfl rfl ?_
    refine Plan.extract (v := .int _ _) rfl rfl rfl rfl ?_
    refine Plan.extract (v := .bool _) rfl rfl rfl rfl ?_
    refine Plan.assign (v := .int _ _) rfl rfl rfl ?_
    refine Plan.assign (v := .bool _) rfl rfl rfl ?_
    refine Plan.done ?_
    refine HW.seq (HW.region [(0, .st)] rfl rfl ?_)
    refine Plan.move (v := .bool _) rfl rfl rfl ?_
    refine Plan.done ?_
    refine HW.cond_true rfl ?_
    refine HW.seq (HW.region [(0, .st), (1, .st)] rfl rfl ?_)
    refine Plan.move (v := .int _ _) rfl rfl rfl ?_
    refine Plan.assign (v := .int _ _) rfl rfl rfl ?_
    refine Plan.done ?_
    exact HW.ret ⟨rfl, _, [Res.mp vc int m kv], .tmp rfl .nil, .cons _ (.refl _), kv, hkv, rfl, rfl⟩
  · skip
    refine Plan.move (v := .tuple _) rfl rfl rfl ?_
    refine Plan.extract (v := .int _ _) rfl rfl rfl rfl ?_
    refine Plan.extract (v := .bool _) rfl rfl rfl rfl ?_
    refine Plan.assign (v := .int _ _) rfl rfl rfl ?_
    refine Plan.assign (v := .bool _) rfl rfl rfl ?_
    refine Plan.done ?_
    refine HW.seq (HW.region [(0, .st)] rfl rfl ?_)
    refine Plan.move (v := .bool _) rfl rfl rfl ?_
    refine Plan.done ?_
    refine HW.cond_false rfl ?_
    refine HW.skip ?_
    refine HW.seq (HW.region [(0, .st)] rfl rfl ?_)
    refine Plan.assign (v := .int _ _) rfl rfl rfl ?_
    refine Plan.done ?_
    refine HW.seq ?_
    refine HW.seq (HW.region [(0, .st), (1, .st), (2, .st), (3, .st), (4, .st), (5, .st)] rfl rfl ?_)
    refine Plan.move (v := .pointer _) rfl rfl rfl ?_
    refine Plan.nilCheck rfl rfl rfl ?_
    refine Plan.fieldAddr rfl rfl fldcutter0 rfl ?_
    refine Plan.load (v := .slice _ _ _) rfl rfl agg_api_Item rfl (Sees.oldOne hcb (by simpa using hcm) rfl) ?_
    refine Plan.len rfl rfl slapiItem rfl ?_
    refine Plan.move (v := .int _ _) rfl rfl rfl ?_
    refine Plan.done ?_
    refine HW.block ?_
    refine HW.loopC (G := Nat) [10, 12, 34, 35, 36, 37, 38, 39, 40, 41, 42, 43, 44, 45, 46] (fun g => [(10, int (bestI (l.take g) a b 0)), (34, int g)]) (fun g => g ≤ l.length) (fun g => l.length - g) (0) ⟨rfl, rfl, trivial⟩ (Nat.zero_le _) (fun g F hok => ?_)
    refine HW.seq (HW.region [(0, .st)] rfl rfl ?_)
    refine Plan.cmp2 rfl rfl rfl rfl rfl (fun h35 => ?_) (fun h35 => ?_)
    · replace h35 := of_decide_eq_true h35
      have hlt : g < l.length := by omega
      obtain ⟨ad, rfl, hl1⟩ := hp g hlt
      have hnm := hl1.notMap (by simp) hmp
      refine Plan.done ?_
      refine HW.seq ?_
      refine HW.cond_true rfl ?_
      refine HW.skip ?_
      refine HW.seq ?_
      refine HW.block ?_
      refine HW.seq (HW.region [(0, .st), (1, .st), (2, .al), (3, .ef)] rfl rfl ?_)
      refine Plan.indexN (g) rfl rfl slapiItem sizapiItem rfl rfl rfl rfl (hlt) ?_
      refine Plan.loadAgg rfl rfl aggItem sizItem rfl (Sees.old hl1 (by simpa using hnm)) rfl ?_
      refine Plan.alloc rfl zerItem fun b12 => ?_
      refine Plan.storeA 0 rfl rfl hDn sizItem rfl rfl rfl rfl rfl rfl ?_
      refine Plan.done ?_
      refine HW.seq (HW.region [(0, .st), (1, .st), (2, .st), (3, .ef)] rfl rfl ?_)
      refine Plan.loadAll 0 rfl rfl aggItem sizItem rfl rfl rfl ?_
      refine Plan.move (v := .int _ _) rfl rfl rfl ?_
      refine Plan.move (v := .int _ _) rfl rfl rfl ?_
      refine Plan.callF [] 0 rfl rfl rfl (.inl rfl) (by simp) (fun w hm => fits_ct _ a b w) ?_   -- tinplate/blank.fits
      rintro v Ln ⟨rfl, rfl⟩
      refine Plan.splitB (fun h41 => ?_) (fun h41 => ?_)
      · skip
        refine Plan.done ?_
        refine HW.cond_true rfl ?_
        skip
        refine HW.region [(0, .st), (1, .st), (2, .st), (3, .st), (4, .st)] rfl rfl ?_
        refine Plan.move (v := .int _ _) rfl rfl rfl ?_
        refine Plan.fieldAddr rfl rfl fldItem2 rfl ?_
        refine Plan.load (v := .int _ _) rfl rfl aggI rfl (Sees.one 0 rfl rfl) ?_
        refine Plan.max rfl rfl rfl rfl ?_
        refine Plan.assign (v := .int _ _) rfl rfl rfl ?_
        refine Plan.done ?_
        refine HW.region [(0, .st), (1, .st)] rfl rfl ?_
        refine Plan.arithI rfl rfl rfl rfl rfl (by omega) ?_
        refine Plan.move (v := .int _ _) rfl rfl rfl ?_
        refine Plan.done ?_
        exact ⟨g + 1, by simp only; omega, hlt, rfl, Ent.sub (.cons _ (.refl _)), (by repeat (first | exact Agree.havoc _ _ _ | refine Agree.updN ?_ | refine Agree.upd rfl ?_ | refine Agree.updL rfl ?_ | refine Agree.havoc2 rfl ?_)), ⟨int_eq (by rw [bestI_take hlt, if_pos h41]; rfl), rfl, trivial⟩⟩
      · skip
        refine Plan.done ?_
        refine HW.cond_false rfl ?_
        refine HW.skip ?_
        refine HW.region [(0, .st), (1, .st)] rfl rfl ?_
        refine Plan.arithI rfl rfl rfl rfl rfl (by omega) ?_
        refine Plan.move (v := .int _ _) rfl rfl rfl ?_
        refine Plan.done ?_
        exact ⟨g + 1, by simp only; omega, hlt, rfl, Ent.sub (.cons _ (.refl _)), (by repeat (first | exact Agree.havoc _ _ _ | refine Agree.updN ?_ | refine Agree.upd rfl ?_ | refine Agree.updL rfl ?_ | refine Agree.havoc2 rfl ?_)), ⟨int_eq (by rw [bestI_take hlt, h41, if_neg (by decide)]), rfl, trivial⟩⟩
    · replace h35 := of_decide_eq_false h35
      have hge : l.take g = l := List.take_of_length_le (by omega)
      rw [hge]
      refine Plan.done ?_
      refine HW.seq ?_
      refine HW.cond_false rfl ?_
      refine HW.exit ?_
      refine HW.seq ?_
      refine HW.seq (HW.region [(0, .st)] rfl rfl ?_)
      refine Plan.assign (v := .int _ _) rfl rfl rfl ?_
      refine Plan.done ?_
      refine HW.block ?_
      refine HW.loopL (G := WG) [10, 13, 47, 48, 49, 50, 51, 52, 53, 54, 55, 56, 57, 58, 59, 60, 61, 62, 63, 64, 65] (fun g => [(10, int (most (fun x => W l (x + 1) b + W l (a - (x + 1)) b) (bestI l a b 0) g.k)), (13, int (g.k + 1))]) (fun g => [Res.mp vc int m g.kv, Res.blk b7 #[int a, int b] 114]) (fun g => g.k ≤ a / 2 ∧ Known l g.kv) (fun g => a / 2 - g.k) (⟨0, kv⟩) ⟨rfl, rfl, trivial⟩ (fun w' hm => hm.perm (List.Perm.swap _ _ _)) (⟨Nat.zero_le _, hkv⟩) (fun g F hok => ?_)
      obtain ⟨k, kv2⟩ := g
      obtain ⟨hk, hkv2⟩ := hok
      dsimp only at hk hkv2
      dsimp only
      refine HW.seq ?_
      refine HW.seq (HW.region [(0, .st), (1, .st), (2, .st), (3, .st)] rfl rfl ?_)
      refine Plan.move (v := .int _ _) rfl rfl rfl ?_
      refine Plan.move (v := .int _ _) rfl rfl rfl ?_
      refine Plan.quo rfl rfl rfl rfl (by omega) ?_
      refine Plan.cmp2 rfl rfl rfl rfl rfl (fun h50 => ?_) (fun h50 => ?_)
      · replace h50 := of_decide_eq_true h50
        have hka : k < a / 2 := by omega
        have q1 := W_bds hl (a := k + 1) (b := b) (by omega) hb (by omega) hb2
        have q2 := W_bds hl (a := a - (k + 1)) (b := b) (by omega) hb (by omega) hb2
        have hs : ((a : Int) - ((k : Int) + 1)) = ((a - (k + 1) : Nat) : Int) := by omega
        refine Plan.done ?_
        refine HW.cond_true rfl ?_
        refine HW.skip ?_
        refine HW.seq ?_
        refine HW.block ?_
        refine HW.region [(0, .st), (1, .st), (2, .st), (3, .st), (4, .ef), (5, .st), (6, .st), (7, .st), (8, .st), (9, .st), (10, .ef), (11, .st), (12, .st), (13, .st)] rfl rfl ?_
        refine Plan.move (v := .int _ _) rfl rfl rfl ?_
        refine Plan.move (v := .pointer _) rfl rfl rfl ?_
        refine Plan.move (v := .int _ _) rfl rfl rfl ?_
        refine Plan.move (v := .int _ _) rfl rfl rfl ?_
        refine Plan.callF [m] 1 rfl rfl rfl (.inr hDn) (by simp [Res.mp, Res.obj]) (fun w hm => ih (k + 1) b kv2 w (by omega) (by omega) hb (by omega) hb2 (hp.memMap hm hmp (fun _ => by simp)) ((hm.old cb (Array.getElem?_eq_some_iff.1 hcb).1 (by simpa using hcm)).trans hcb) (hm.res (Res.mp vc int m kv2) (by simp)) hkv2) ?_   -- (*tinplate/blank.cutter).worth
        rintro v Ln ⟨kv3, hkv3, rfl, rfl⟩
        refine Plan.move (v := .pointer _) rfl rfl rfl ?_
        refine Plan.move (v := .int _ _) rfl rfl rfl ?_
        refine Plan.move (v := .int _ _) rfl rfl rfl ?_
        refine Plan.arithI rfl rfl rfl rfl rfl (by omega) ?_
        refine Plan.move (v := .int _ _) rfl rfl rfl ?_
        refine Plan.callF [m] 1 rfl rfl rfl (.inr hDn) (by simp [Res.mp, Res.obj]) (fun w hm => (by rw [hs]; exact ih (a - (k + 1)) b kv3 w (by omega) (by omega) hb (by omega) hb2 (hp.memMap hm hmp (fun _ => by simp)) ((hm.old cb (Array.getElem?_eq_some_iff.1 hcb).1 (by simpa using hcm)).trans hcb) (hm.res (Res.mp vc int m kv3) (by simp)) hkv3)) ?_   -- (*tinplate/blank.cutter).worth
        rintro v Ln ⟨kv4, hkv4, rfl, rfl⟩
        refine Plan.arithI rfl rfl rfl rfl rfl (by omega) ?_
        refine Plan.max rfl rfl rfl rfl ?_
        refine Plan.assign (v := .int _ _) rfl rfl rfl ?_
        refine Plan.done ?_
        refine HW.region [(0, .st), (1, .st), (2, .st)] rfl rfl ?_
        refine Plan.move (v := .int _ _) rfl rfl rfl ?_
        refine Plan.arithI rfl rfl rfl rfl rfl (by omega) ?_
        refine Plan.assign (v := .int _ _) rfl rfl rfl ?_
        refine Plan.done ?_
        exact ⟨⟨k + 1, kv4⟩, by dsimp only; omega, ⟨hka, hkv4⟩, rfl, Ent.sub (.refl _), (by repeat (first | exact Agree.havoc _ _ _ | refine Agree.updN ?_ | refine Agree.upd rfl ?_ | refine Agree.updL rfl ?_ | refine Agree.havoc2 rfl ?_)), ⟨rfl, rfl, trivial⟩⟩
      · replace h50 := of_decide_eq_false h50
        have hke : k = a / 2 := by omega
        subst hke
        refine Plan.done ?_
        refine HW.cond_false rfl ?_
        refine HW.exit ?_
        refine HW.seq ?_
        refine HW.seq (HW.region [(0, .st)] rfl rfl ?_)
        refine Plan.assign (v := .int _ _) rfl rfl rfl ?_
        refine Plan.done ?_
        refine HW.block ?_
        refine HW.loopL (G := WG) [10, 14, 66, 67, 68, 69, 70, 71, 72, 73, 74, 75, 76, 77, 78, 79, 80, 81, 82, 83, 84] (fun g => [(10, int (most (fun y => W l a (y + 1) + W l a (b - (y + 1))) (most (fun x => W l (x + 1) b + W l (a - (x + 1)) b) (bestI l a b 0) (a / 2)) g.k)), (14, int (g.k + 1))]) (fun g => [Res.mp vc int m g.kv, Res.blk b7 #[int a, int b] 114]) (fun g => g.k ≤ b / 2 ∧ Known l g.kv) (fun g => b / 2 - g.k) (⟨0, kv2⟩) ⟨rfl, rfl, trivial⟩ (fun w' hm => hm) (⟨Nat.zero_le _, hkv2⟩) (fun g F hok => ?_)
        obtain ⟨k, kv2⟩ := g
        obtain ⟨hk, hkv2⟩ := hok
        dsimp only at hk hkv2
        dsimp only
        refine HW.seq ?_
        refine HW.seq (HW.region [(0, .st), (1, .st), (2, .st), (3, .st)] rfl rfl ?_)
        refine Plan.move (v := .int _ _) rfl rfl rfl ?_
        refine Plan.move (v := .int _ _) rfl rfl rfl ?_
        refine Plan.quo rfl rfl rfl rfl (by omega) ?_
        refine Plan.cmp2 rfl rfl rfl rfl rfl (fun h69 => ?_) (fun h69 => ?_)
        · replace h69 := of_decide_eq_true h69
          have hka : k < b / 2 := by omega
          have q1 := W_bds hl (a := a) (b := k + 1) ha (by omega) ha2 (by omega)
          have q2 := W_bds hl (a := a) (b := b - (k + 1)) ha (by omega) ha2 (by omega)
          have hs : ((b : Int) - ((k : Int) + 1)) = ((b - (k + 1) : Nat) : Int) := by omega
          refine Plan.done ?_
          refine HW.cond_true rfl ?_
          refine HW.skip ?_
          refine HW.seq ?_
          refine HW.block ?_
          refine HW.region [(0, .st), (1, .st), (2, .st), (3, .st), (4, .ef), (5, .st), (6, .st), (7, .st), (8, .st), (9, .st), (10, .ef), (11, .st), (12, .st), (13, .st)] rfl rfl ?_
          refine Plan.move (v := .int _ _) rfl rfl rfl ?_
          refine Plan.move (v := .pointer _) rfl rfl rfl ?_
          refine Plan.move (v := .int _ _) rfl rfl rfl ?_
          refine Plan.move (v := .int _ _) rfl rfl rfl ?_
          refine Plan.callF [m] 1 rfl rfl rfl (.inr hDn) (by simp [Res.mp, Res.obj]) (fun w hm => ih a (k + 1) kv2 w (by omega) ha (by omega) ha2 (by omega) (hp.memMap hm hmp (fun _ => by simp)) ((hm.old cb (Array.getElem?_eq_some_iff.1 hcb).1 (by simpa using hcm)).trans hcb) (hm.res (Res.mp vc int m kv2) (by simp)) hkv2) ?_   -- (*tinplate/blank.cutter).worth
          rintro v Ln ⟨kv3, hkv3, rfl, rfl⟩
          refine Plan.move (v := .pointer _) rfl rfl rfl ?_
          refine Plan.move (v := .int _ _) rfl rfl rfl ?_
          refine Plan.move (v := .int _ _) rfl rfl rfl ?_
          refine Plan.move (v := .int _ _) rfl rfl rfl ?_
          refine Plan.arithI rfl rfl rfl rfl rfl (by omega) ?_
          refine Plan.callF [m] 1 rfl rfl rfl (.inr hDn) (by simp [Res.mp, Res.obj]) (fun w hm => (by rw [hs]; exact ih a (b - (k + 1)) kv3 w (by omega) ha (by omega) ha2 (by omega) (hp.memMap hm hmp (fun _ => by simp)) ((hm.old cb (Array.getElem?_eq_some_iff.1 hcb).1 (by simpa using hcm)).trans hcb) (hm.res (Res.mp vc int m kv3) (by simp)) hkv3)) ?_   -- (*tinplate/blank.cutter).worth
          rintro v Ln ⟨kv4, hkv4, rfl, rfl⟩
          refine Plan.arithI rfl rfl rfl rfl rfl (by omega) ?_
          refine Plan.max rfl rfl rfl rfl ?_
          refine Plan.assign (v := .int _ _) rfl rfl rfl ?_
          refine Plan.done ?_
          refine HW.region [(0, .st), (1, .st), (2, .st)] rfl rfl ?_
          refine Plan.move (v := .int _ _) rfl rfl rfl ?_
          refine Plan.arithI rfl rfl rfl rfl rfl (by omega) ?_
          refine Plan.assign (v := .int _ _) rfl rfl rfl ?_
          refine Plan.done ?_
          exact ⟨⟨k + 1, kv4⟩, by dsimp only; omega, ⟨hka, hkv4⟩, rfl, Ent.sub (.refl _), (by repeat (first | exact Agree.havoc _ _ _ | refine Agree.updN ?_ | refine Agree.upd rfl ?_ | refine Agree.updL rfl ?_ | refine Agree.havoc2 rfl ?_)), ⟨rfl, rfl, trivial⟩⟩
        · replace h69 := of_decide_eq_false h69
          have hke : k = b / 2 := by omega
          subst hke
          rw [← W_eq l ha hb]
          refine Plan.done ?_
          refine HW.cond_false rfl ?_
          refine HW.exit ?_
          refine HW.seq (HW.region_any [6] [(0, .st), (1, .st), (2, .st), (3, .st), (4, .st), (5, .st), (6, .ef)] mix (by kernel_rfl) (fun _ _ _ _ _ h => h) (zeros rfl) ?_)
          refine Plan.move (v := .pointer _) rfl rfl rfl ?_
          refine Plan.nilCheck rfl rfl rfl ?_
          refine Plan.fieldAddr rfl rfl fldcutter1 rfl ?_
          refine Plan.load (v := .map _) rfl rfl aggMap_2_int_int rfl (Sees.oldOne hcb (by simpa using hcm) rfl) ?_
          refine Plan.loadAll 1 rfl rfl agg2int siz2int rfl rfl rfl ?_
          refine Plan.move (v := .int _ _) rfl rfl rfl ?_
          refine Plan.mapUpdate (0) (keys2) (ev' := int) (v := W l a b) (k := ((a : Int), (b : Int))) undMap_2_int_int rfl rfl (hDs (by decide)) rfl rfl rfl rfl ?_
          refine Plan.done ?_
          refine HW.seq (HW.region [(0, .st), (1, .st)] rfl rfl ?_)
          refine Plan.move (v := .int _ _) rfl rfl rfl ?_
          refine Plan.assign (v := .int _ _) rfl rfl rfl ?_
          refine Plan.done ?_
          exact HW.ret ⟨rfl, _, [Res.mp vc int m (putK ((a : Int), (b : Int)) (W l a b) kv2)], .tmp rfl .nil, .cons_cons _ (List.nil_sublist _), _, hkv2.put ha hb, rfl, rfl⟩

theorem worth_ct (l : List It) (A : Option Addr) (c cb m : Nat) (hl : l.any badI = false) (hlen : l.length ≤ 10) (hcm : cb ≠ m) : ∀ N, WorthAt l A c cb m N
  | 0 => fun a b kv w h ha => by omega
  | N + 1 => worth_step l A c cb m N hl hlen hcm (worth_ct l A c cb m hl hlen hcm N)

end Go.Proofs.Ytjmklbkcpjmcaaa.V
