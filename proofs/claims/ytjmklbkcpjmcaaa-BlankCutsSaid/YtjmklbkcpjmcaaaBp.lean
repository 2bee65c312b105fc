/-
  Package tinplateref04: table.
-/
import Derived.Test.YtjmklbkcpjmcaaaBf
namespace Go.Proofs.Ytjmklbkcpjmcaaa.V
open Go Go.RowKit Go.Proofs.Ytjmklbkcpjmcaaa.H Go.Proofs.Ytjmklbkcpjmcaaa.LL
set_option linter.unusedVariables false
set_option linter.unusedSimpArgs false

/-- the header of a slice -/
structure SlH where
  A : Option Addr
  n : Nat
  c : Nat
abbrev encH (h : SlH) : List Value := [.slice h.A h.n h.c]
theorem encH1 (h : SlH) : (encH h).length = 1 := rfl
theorem encHo (h : SlH) : (encH h).all (·.oneCell') = true := rfl
theorem slSsint : P.underlying 82 = some (.slice 43) := by kernel_rfl
theorem sizSsint (w : World) : (sizeOf 43).run P w = .ok 1 w := by kernel_rfl
theorem infSsint : ∃ ti, P.info? 43 = some ti ∧ (ti.zero, ti.size, ti.bytes) = (some (.slice none 0 0), 1, 24) := by
  have e : (P.info? 43).map (fun ti => (ti.zero, ti.size, ti.bytes)) = some (some (.slice none 0 0), 1, 24) := by kernel_rfl
  obtain ⟨ti, h1, h2⟩ := Option.map_eq_some_iff.1 e
  exact ⟨ti, h1, h2⟩
theorem Sees.ownW {J : Jd} {L : List Res} {α : Type} {en : α → List Value} {sz : Nat} {e : TypeId} {o : Option Nat} {c : Nat} {xs : List α} (j : Nat) (hk : ∀ x, (en x).length = sz) (hj : L[j]? = some (Res.own en sz e o c xs)) (b : Nat) (hb : o = some b) (m : Nat) (hm : m < xs.length) {x : α} (hx : xs[m] = x) : Sees J L ((⟨b, 0, none⟩ : Addr).add (m * sz)) (en x) := by
  subst hx
  exact Sees.own j hk hj b hb m hm

/-! the worths, as the table holds them -/
def Vt (l : List It) (x y : Nat) : Int := if x = 0 ∨ y = 0 then 0 else W l x y
theorem Vt_pos {l : List It} {x y : Nat} (hx : 0 < x) (hy : 0 < y) : Vt l x y = W l x y := by rw [Vt, if_neg (by omega)]
def tBest (l : List It) (x y : Nat) : Int := most (fun c => W l x (c + 1) + W l x (y - (c + 1))) (most (fun c => W l (c + 1) y + W l (x - (c + 1)) y) (bestI l x y 0) (x - 1)) (y - 1)
theorem tBest_eq (l : List It) {x y : Nat} (hx : 0 < x) (hy : 0 < y) : tBest l x y = W l x y := by
  obtain ⟨a1, a2, a3, a4⟩ := le_W l hx hy
  refine Int.le_antisymm ?_ ?_
  · refine most_le.2 ⟨most_le.2 ⟨bestI_le.2 ⟨a1, a2⟩, fun c hc => a3 (c + 1) (by omega) (by omega)⟩, fun c hc => a4 (c + 1) (by omega) (by omega)⟩
  · have b1 := le_most (f := fun c => W l x (c + 1) + W l x (y - (c + 1))) (b := most (fun c => W l (c + 1) y + W l (x - (c + 1)) y) (bestI l x y 0) (x - 1)) (k := y - 1)
    have b2 := le_most (f := fun c => W l (c + 1) y + W l (x - (c + 1)) y) (b := bestI l x y 0) (k := x - 1)
    have b3 := le_bestI (l := l) (w := x) (h := y) (b := 0)
    refine (W_le l hx hy).2 ⟨?_, fun i hi hf => ?_, fun c h1 h2 => ?_, fun c h1 h2 => ?_⟩
    · exact Int.le_trans b3.1 (Int.le_trans b2.1 b1.1)
    · exact Int.le_trans (b3.2 i hi hf) (Int.le_trans b2.1 b1.1)
    · have := b2.2 (c - 1) (by omega)
      rw [show c - 1 + 1 = c by omega] at this
      exact Int.le_trans this b1.1
    · have := b1.2 (c - 1) (by omega)
      rw [show c - 1 + 1 = c by omega] at this
      exact this

/-- a row whose first y entries are filled -/
def cur (l : List It) (n x y : Nat) : List Int := (List.range n).map fun j => if j < y then Vt l x j else 0
theorem cur_len (l : List It) (n x y : Nat) : (cur l n x y).length = n := by simp [cur]
theorem cur_get {l : List It} {n x y j : Nat} (hj : j < n) : (cur l n x y)[j]? = some (if j < y then Vt l x j else 0) := by
  simp [cur, hj]
theorem cur_set {l : List It} {n x y : Nat} (hy : y < n) : (cur l n x y).set y (Vt l x y) = cur l n x (y + 1) := by
  refine List.ext_getElem? fun j => ?_
  rw [List.getElem?_set, cur_len]
  by_cases hj : j < n
  · rw [cur_get hj, cur_get hj]
    by_cases h : y = j
    · subst h; rw [if_pos rfl, if_pos hj, if_pos (by omega)]
    · rw [if_neg h]
      by_cases h2 : j < y
      · rw [if_pos h2, if_pos (by omega)]
      · rw [if_neg h2, if_neg (by omega)]
  · rw [if_neg (by omega), List.getElem?_eq_none (by rw [cur_len]; omega), List.getElem?_eq_none (by rw [cur_len]; omega)]
theorem cur_one (l : List It) (n x : Nat) : cur l n x 1 = List.replicate n 0 := by
  refine List.ext_getElem? fun j => ?_
  by_cases hj : j < n
  · rw [cur_get hj, List.getElem?_replicate, if_pos hj]
    by_cases h : j = 0
    · subst h; simp [Vt]
    · rw [if_neg (by omega)]
  · rw [List.getElem?_eq_none (by rw [cur_len]; omega), List.getElem?_eq_none (by simp; omega)]
theorem cur_zero (l : List It) (n y : Nat) : cur l n 0 y = List.replicate n 0 := by
  refine List.ext_getElem? fun j => ?_
  by_cases hj : j < n
  · rw [cur_get hj, List.getElem?_replicate, if_pos hj]
    by_cases h : j < y
    · rw [if_pos h]; simp [Vt]
    · rw [if_neg h]
  · rw [List.getElem?_eq_none (by rw [cur_len]; omega), List.getElem?_eq_none (by simp; omega)]

/-! the table in memory -/
abbrev rowR (n : Nat) (r : Nat × List Int) : Res := ownI (some r.1) n r.2
def hdr (n b : Nat) : SlH := ⟨some ⟨b, 0, none⟩, n, n⟩
def hdrs (n W : Nat) (rows : List (Nat × List Int)) : List SlH := rows.map (fun r => hdr n r.1) ++ List.replicate (W - rows.length) ⟨none, 0, 0⟩
abbrev outR (tb W : Nat) (hs : List SlH) : Res := Res.own encH 1 43 (some tb) W hs
def tabL (tb W n : Nat) (rows : List (Nat × List Int)) : List Res := outR tb W (hdrs n W rows) :: rows.map (rowR n)
theorem hdrs_len {n W : Nat} {rows : List (Nat × List Int)} (h : rows.length ≤ W) : (hdrs n W rows).length = W := by simp [hdrs]; omega
theorem hdrs_get {n W : Nat} {rows : List (Nat × List Int)} {x : Nat} (hx : x < rows.length) (h : x < (hdrs n W rows).length) : (hdrs n W rows)[x] = hdr n rows[x].1 := by
  simp only [hdrs]
  rw [List.getElem_append_left (by simpa using hx)]
  simp
theorem hdrs_push {n W : Nat} {rows : List (Nat × List Int)} (h : rows.length < W) (b : Nat) (v : List Int) : (hdrs n W rows).set rows.length (hdr n b) = hdrs n W (rows ++ [(b, v)]) := by
  unfold hdrs
  rw [List.set_append_right _ _ (by simp)]
  have e : W - rows.length = (W - (rows ++ [(b, v)]).length) + 1 := by simp; omega
  rw [e, List.replicate_succ, List.length_map, Nat.sub_self, List.set_cons_zero, List.map_append, List.append_assoc]
  rfl
theorem tab_push {w0 w : World} {X : List Nat} {tb W n b : Nat} {rows : List (Nat × List Int)} {v : List Int} (h : rows.length < W)
    (hm : Mem w0 X (rowR n (b, v) :: outR tb W ((hdrs n W rows).set rows.length (hdr n b)) :: rows.map (rowR n)) w) : Mem w0 X (tabL tb W n (rows ++ [(b, v)])) w := by
  rw [hdrs_push h b v] at hm
  refine hm.perm ?_
  unfold tabL
  rw [List.map_append]
  refine List.Perm.trans (List.Perm.swap _ _ _) (List.Perm.cons _ ?_)
  exact (List.perm_append_comm (l₁ := [rowR n (b, v)]) (l₂ := rows.map (rowR n)))
theorem tabL_get {tb W n : Nat} {rows : List (Nat × List Int)} {x : Nat} (hx : x < rows.length) : (tabL tb W n rows)[x + 1]? = some (rowR n rows[x]) := by
  simp [tabL, hx]
theorem tab_row (tb W n : Nat) (rows : List (Nat × List Int)) (c : Nat) (hc : c < rows.length) (hW : rows.length ≤ W) : ∃ rb, (∀ J, Sees J (tabL tb W n rows) ((⟨tb, 0, none⟩ : Addr).add (c * 1)) [.slice (some ⟨rb, 0, none⟩) n n]) ∧
    ∀ (y : Nat) (v : Int), (rows[c].2)[y]? = some v → ∀ J, Sees J (tabL tb W n rows) ((⟨rb, 0, none⟩ : Addr).add (y * 1)) [int v] := by
  refine ⟨rows[c].1, fun J => ?_, fun y v hv J => ?_⟩
  · have h1 : c < (hdrs n W rows).length := by rw [hdrs_len hW]; omega
    exact Sees.ownW (en := encH) 0 encH1 rfl tb rfl c h1 (hdrs_get hc h1)
  · obtain ⟨hy, he⟩ := List.getElem?_eq_some_iff.1 hv
    exact Sees.ownW (en := encI) (c + 1) encI1 (tabL_get hc) _ rfl y hy he
theorem tabL_setlast {tb W n b : Nat} {rows : List (Nat × List Int)} {v v' : List Int} : (tabL tb W n (rows ++ [(b, v)])).set (rows.length + 1) (ownI (some b) n v') = tabL tb W n (rows ++ [(b, v')]) := by
  unfold tabL hdrs
  simp only [List.map_append, List.set_cons_succ, List.length_append]
  rw [List.set_append_right _ _ (by simp)]
  simp
theorem tabL_last {tb W n b : Nat} {rows : List (Nat × List Int)} {v : List Int} : (tabL tb W n (rows ++ [(b, v)]))[rows.length + 1]? = some (ownI (some b) n v) := by
  rw [tabL_get (by simp)]
  simp
theorem hdrs_last {n W b : Nat} {rows : List (Nat × List Int)} {v : List Int} (h : rows.length < (hdrs n W (rows ++ [(b, v)])).length) : (hdrs n W (rows ++ [(b, v)]))[rows.length] = hdr n b := by
  rw [hdrs_get (by simp) h]
  simp

structure OfJ where
  n : Nat

structure TbG where
  rows : List (Nat × List Int)

theorem row_done {l : List It} {n : Nat} {rows : List (Nat × List Int)} {b y : Nat} (h : ∀ j (hj : j < rows.length), rows[j].2 = cur l n j n) (hl : cur l n rows.length y = cur l n rows.length n) :
    ∀ j (hj : j < (rows ++ [(b, cur l n rows.length y)]).length), (rows ++ [(b, cur l n rows.length y)])[j].2 = cur l n j n := fun j hj => by
  by_cases hlt : j < rows.length
  · rw [List.getElem_append_left hlt]; exact h j hlt
  · have hje : j = rows.length := by simp at hj; omega
    subst hje
    rw [List.getElem_append_right (Nat.le_refl _)]
    simpa using hl

set_option maxRecDepth 100000 in
set_option maxHeartbeats 2000000 in
theorem table_ct (A : Option Addr) (l : List It) (nl c a b : Nat) (w : World) (hA : Rd encT 3 w A l) (hn : nl = l.length) (ha : 0 < a) (hb : 0 < b) (ha2 : a ≤ 100) (hb2 : b ≤ 100) (hlen : l.length ≤ 10) (hl : l.any badI = false) :
    Ct P 50 #[int a, int b, .slice A nl c] w [] (fun r L => ∃ tb rows, r = slv (some tb) (a + 1) (a + 1) ∧ L = tabL tb (a + 1) (b + 1) rows ∧ rows.length = a + 1 ∧ ∀ j (hj : j < rows.length), rows[j].2 = cur l (b + 1) j (b + 1)) := by
  subst hn
  refine Ct.of_body (rs := [.tmp 6]) (N := 122) (L := []) Try.func50 rfl rfl rfl (by kernel_rfl) rfl (Mem.refl w) ?_
  refine HW.seq (HW.region [(0, .st)] rfl rfl ?_)
  refine Plan.assign (v := .slice _ _ _) rfl rfl rfl ?_
  refine Plan.done ?_
  refine HW.seq (HW.region [(0, .st), (1, .st), (2, .ef), (3, .st)] rfl rfl ?_)
  refine Plan.move (v := .int _ _) rfl rfl rfl ?_
  refine Plan.arithI rfl rfl rfl rfl rfl (by omega) ?_
  refine Plan.makeOwn (enc := encH) (sz := 1) (⟨none, 0, 0⟩ : SlH) ((a + 1)) rfl rfl slSsint infSsint rfl (by decide) rfl rfl rfl (by omega) (by omega) fun b16 => ?_
  refine Plan.assign (v := .slice _ _ _) rfl rfl rfl ?_
  refine Plan.done ?_
  refine HW.seq ?_
  refine HW.seq (HW.region [(0, .st)] rfl rfl ?_)
  refine Plan.assign (v := .int _ _) rfl rfl rfl ?_
  refine Plan.done ?_
  refine HW.block ?_
  refine HW.loopL (G := TbG) [8, 9, 10, 11, 12, 13, 17, 18, 19, 20, 21, 22, 23, 24, 25, 26, 27, 28, 29, 30, 31, 32, 33, 34, 35, 36, 37, 38, 39, 40, 41, 42, 43, 44, 45, 46, 47, 48, 49, 50, 51, 52, 53, 54, 55, 56, 57, 58, 59, 60, 61, 62, 63, 64, 65, 66, 67, 68, 69, 70, 71, 72, 73, 74, 75, 76, 77, 78, 79, 80, 81, 82, 83, 84, 85, 86, 87, 88, 89, 90, 91, 92, 93, 94, 95, 96, 97, 98, 99, 100, 101, 102, 103, 104, 105, 106, 107, 108, 109, 110, 111, 112, 113, 114, 115, 116, 117, 118, 119, 120] (fun g => [(8, int g.rows.length)]) (fun g => tabL b16 (a + 1) (b + 1) g.rows) (fun g => g.rows.length ≤ a + 1 ∧ ∀ j (hj : j < g.rows.length), g.rows[j].2 = cur l (b + 1) j (b + 1)) (fun g => a + 1 - g.rows.length) (⟨[]⟩) ⟨rfl, trivial⟩ (fun w' hm => hm) (⟨Nat.zero_le _, fun j hj => absurd hj (Nat.not_lt_zero _)⟩) (fun g F hok => ?_)
  obtain ⟨rows⟩ := g
  obtain ⟨hr1, hr2⟩ := hok
  dsimp only at hr1 hr2
  dsimp only
  refine HW.seq ?_
  refine HW.seq (HW.region [(0, .st), (1, .st), (2, .st)] rfl rfl ?_)
  refine Plan.move (v := .int _ _) rfl rfl rfl ?_
  refine Plan.move (v := .int _ _) rfl rfl rfl ?_
  refine Plan.cmp2 rfl rfl rfl rfl rfl (fun h19 => ?_) (fun h19 => ?_)
  · replace h19 := of_decide_eq_true h19
    have hxa : rows.length ≤ a := by omega
    refine Plan.done ?_
    refine HW.cond_true rfl ?_
    refine HW.skip ?_
    refine HW.seq ?_
    refine HW.block ?_
    refine HW.seq (HW.region [(0, .st), (1, .st), (2, .st), (3, .st), (4, .ef), (5, .st), (6, .ef)] rfl rfl ?_)
    refine Plan.move (v := .slice _ _ _) rfl rfl rfl ?_
    refine Plan.move (v := .int _ _) rfl rfl rfl ?_
    refine Plan.move (v := .int _ _) rfl rfl rfl ?_
    refine Plan.arithI rfl rfl rfl rfl rfl (by omega) ?_
    refine Plan.makeOwn (enc := encI) (sz := 1) 0 ((b + 1)) rfl rfl slI infI rfl (by decide) rfl rfl rfl (by omega) (by omega) fun b26 => ?_
    refine Plan.indexN (rows.length) rfl rfl slSsint sizSsint rfl rfl rfl rfl ((by omega)) ?_
    refine Plan.storeOwn (enc := encH) (sz := 1) ((hdr (b + 1) b26)) (rows.length) (1) rfl rfl hDn siz_int encH1 encHo rfl rfl rfl rfl rfl ((by rw [hdrs_len hr1]; omega)) ?_
    refine Plan.done ?_
    refine HW.conv (tabL b16 (a + 1) (b + 1) (rows ++ [(b26, cur l (b + 1) rows.length 1)])) (fun w' hm => tab_push (by omega) (by rw [cur_one]; exact hm)) ?_
    refine HW.seq (HW.region [(0, .st)] rfl rfl ?_)
    refine Plan.assign (v := .int _ _) rfl rfl rfl ?_
    refine Plan.done ?_
    refine HW.block ?_
    refine HW.loopL (G := OfJ) [9, 10, 11, 12, 13, 28, 29, 30, 31, 32, 33, 34, 35, 36, 37, 38, 39, 40, 41, 42, 43, 44, 45, 46, 47, 48, 49, 50, 51, 52, 53, 54, 55, 56, 57, 58, 59, 60, 61, 62, 63, 64, 65, 66, 67, 68, 69, 70, 71, 72, 73, 74, 75, 76, 77, 78, 79, 80, 81, 82, 83, 84, 85, 86, 87, 88, 89, 90, 91, 92, 93, 94, 95, 96, 97, 98, 99, 100, 101, 102, 103, 104, 105, 106, 107, 108, 109, 110, 111, 112, 113, 114, 115, 116, 117, 118, 119, 120] (fun g => [(9, int g.n)]) (fun g => tabL b16 (a + 1) (b + 1) (rows ++ [(b26, cur l (b + 1) rows.length g.n)])) (fun g => 1 ≤ g.n ∧ g.n ≤ b + 1 ∧ (rows.length = 0 → g.n = 1)) (fun g => b + 1 - g.n) (⟨1⟩) ⟨rfl, trivial⟩ (fun w' hm => hm) (⟨Nat.le_refl 1, by show 1 ≤ b + 1; omega, fun _ => rfl⟩) (fun g F hok => ?_)
    obtain ⟨y⟩ := g
    obtain ⟨y1, y2, y3⟩ := hok
    dsimp only at y1 y2 y3
    dsimp only
    refine HW.seq ?_
    refine HW.seq (HW.region [(0, .st), (1, .st), (2, .st), (3, .st), (4, .st), (5, .st), (6, .st)] rfl rfl ?_)
    refine Plan.move (v := .int _ _) rfl rfl rfl ?_
    refine Plan.move (v := .int _ _) rfl rfl rfl ?_
    refine Plan.cmp2 rfl rfl rfl rfl rfl (fun h30 => ?_) (fun h30 => ?_)
    · replace h30 := of_decide_eq_true h30
      refine Plan.move (v := .bool _) rfl rfl rfl ?_
      refine Plan.move (v := .int _ _) rfl rfl rfl ?_
      refine Plan.cmp2 rfl rfl rfl rfl rfl (fun h33 => ?_) (fun h33 => ?_)
      · replace h33 := of_decide_eq_true h33
        have hx0 : 0 < rows.length := by omega
        have hyb : y < b + 1 := by omega
        have hWl : (rows ++ [(b26, cur l (b + 1) rows.length y)]).length ≤ a + 1 := by simp; omega
        have hold : ∀ c, 0 < c → c < rows.length → ∃ rb, (∀ J, Sees J (tabL b16 (a + 1) (b + 1) (rows ++ [(b26, cur l (b + 1) rows.length y)])) ((⟨b16, 0, none⟩ : Addr).add (c * 1)) [.slice (some ⟨rb, 0, none⟩) (b + 1) (b + 1)]) ∧ ∀ J, Sees J (tabL b16 (a + 1) (b + 1) (rows ++ [(b26, cur l (b + 1) rows.length y)])) ((⟨rb, 0, none⟩ : Addr).add (y * 1)) [int (W l c y)] := fun c h0 hc => by
          obtain ⟨rb, s1, s2⟩ := tab_row b16 (a + 1) (b + 1) (rows ++ [(b26, cur l (b + 1) rows.length y)]) c (by simp; omega) hWl
          refine ⟨rb, s1, fun J => s2 y _ ?_ J⟩
          rw [List.getElem_append_left hc, hr2 c hc, cur_get hyb, if_pos hyb, Vt_pos h0 y1]
        have hself : ∃ rb, (∀ J, Sees J (tabL b16 (a + 1) (b + 1) (rows ++ [(b26, cur l (b + 1) rows.length y)])) ((⟨b16, 0, none⟩ : Addr).add (rows.length * 1)) [.slice (some ⟨rb, 0, none⟩) (b + 1) (b + 1)]) ∧ ∀ c, 0 < c → c < y → ∀ J, Sees J (tabL b16 (a + 1) (b + 1) (rows ++ [(b26, cur l (b + 1) rows.length y)])) ((⟨rb, 0, none⟩ : Addr).add (c * 1)) [int (W l rows.length c)] := by
          obtain ⟨rb, s1, s2⟩ := tab_row b16 (a + 1) (b + 1) (rows ++ [(b26, cur l (b + 1) rows.length y)]) rows.length (by simp) hWl
          refine ⟨rb, s1, fun c h0 hc J => s2 c _ ?_ J⟩
          rw [List.getElem_append_right (Nat.le_refl _)]
          simp only [Nat.sub_self, List.getElem_cons_zero]
          rw [cur_get (by omega), if_pos hc, Vt_pos hx0 h0]
        obtain ⟨rx, sx, vx⟩ := hself
        refine Plan.pick (v := .bool _) rfl rfl rfl rfl ?_
        refine Plan.done ?_
        refine HW.cond_true rfl ?_
        refine HW.skip ?_
        refine HW.seq ?_
        refine HW.block ?_
        refine HW.seq (HW.region [(0, .st)] rfl rfl ?_)
        refine Plan.assign (v := .int _ _) rfl rfl rfl ?_
        refine Plan.done ?_
        refine HW.seq ?_
        refine HW.seq (HW.region [(0, .st)] rfl rfl ?_)
        refine Plan.assign (v := .int _ _) rfl rfl rfl ?_
        refine Plan.done ?_
        refine HW.block ?_
        refine HW.loopC (G := Nat) [10, 11, 37, 38, 39, 40, 41, 42, 43, 44, 45, 46, 47, 48, 49, 50, 51, 52, 53, 54, 55, 56, 57, 58, 59, 60, 61, 62, 63, 64, 65] (fun g => [(10, int (bestI (l.take g) rows.length y 0)), (11, int g)]) (fun g => g ≤ l.length) (fun g => l.length - g) (0) ⟨rfl, rfl, trivial⟩ (Nat.zero_le _) (fun g F hok => ?_)
        refine HW.seq ?_
        refine HW.seq (HW.region [(0, .st), (1, .st), (2, .st), (3, .st)] rfl rfl ?_)
        refine Plan.move (v := .int _ _) rfl rfl rfl ?_
        refine Plan.move (v := .slice _ _ _) rfl rfl rfl ?_
        refine Plan.len rfl rfl slapiItem rfl ?_
        refine Plan.cmp2 rfl rfl rfl rfl rfl (fun h40 => ?_) (fun h40 => ?_)
        · replace h40 := of_decide_eq_true h40
          have hlt : g < l.length := by omega
          obtain ⟨ad, rfl, hl1⟩ := hA g hlt
          refine Plan.done ?_
          refine HW.cond_true rfl ?_
          refine HW.skip ?_
          refine HW.seq ?_
          refine HW.block ?_
          refine HW.seq (HW.region [(0, .st), (1, .st), (2, .st), (3, .st), (4, .st), (5, .st), (6, .st), (7, .st), (8, .st), (9, .st), (10, .st), (11, .st), (12, .st), (13, .st), (14, .st), (15, .st)] rfl rfl ?_)
          refine Plan.move (v := .slice _ _ _) rfl rfl rfl ?_
          refine Plan.move (v := .int _ _) rfl rfl rfl ?_
          refine Plan.indexN (g) rfl rfl slapiItem sizapiItem rfl rfl rfl rfl (hlt) ?_
          refine Plan.fieldAddr rfl rfl fldItem0 rfl ?_
          refine Plan.load (v := .int _ _) rfl rfl aggI rfl (Sees.nth (Sees.old hl1 (by simp)) 0 rfl) ?_
          refine Plan.move (v := .int _ _) rfl rfl rfl ?_
          refine Plan.cmp2 rfl rfl rfl rfl rfl (fun h49 => ?_) (fun h49 => ?_)
          · replace h49 := of_decide_eq_true h49
            refine Plan.move (v := .bool _) rfl rfl rfl ?_
            refine Plan.move (v := .slice _ _ _) rfl rfl rfl ?_
            refine Plan.move (v := .int _ _) rfl rfl rfl ?_
            refine Plan.indexN (g) rfl rfl slapiItem sizapiItem rfl rfl rfl rfl (hlt) ?_
            refine Plan.fieldAddr rfl rfl fldItem1 rfl ?_
            refine Plan.load (v := .int _ _) rfl rfl aggI rfl (Sees.nth (Sees.old hl1 (by simp)) 1 rfl) ?_
            refine Plan.move (v := .int _ _) rfl rfl rfl ?_
            refine Plan.cmp2 rfl rfl rfl rfl rfl (fun h57 => ?_) (fun h57 => ?_)
            · replace h57 := of_decide_eq_true h57
              refine Plan.pick (v := .bool _) rfl rfl rfl rfl ?_
              refine Plan.done ?_
              refine HW.cond_true rfl ?_
              refine HW.region [(0, .st), (1, .st), (2, .st), (3, .st), (4, .st), (5, .st), (6, .st), (7, .st)] rfl rfl ?_
              refine Plan.move (v := .int _ _) rfl rfl rfl ?_
              refine Plan.move (v := .slice _ _ _) rfl rfl rfl ?_
              refine Plan.move (v := .int _ _) rfl rfl rfl ?_
              refine Plan.indexN (g) rfl rfl slapiItem sizapiItem rfl rfl rfl rfl (hlt) ?_
              refine Plan.fieldAddr rfl rfl fldItem2 rfl ?_
              refine Plan.load (v := .int _ _) rfl rfl aggI rfl (Sees.nth (Sees.old hl1 (by simp)) 2 rfl) ?_
              refine Plan.max rfl rfl rfl rfl ?_
              refine Plan.assign (v := .int _ _) rfl rfl rfl ?_
              refine Plan.done ?_
              refine HW.region [(0, .st), (1, .st), (2, .st)] rfl rfl ?_
              refine Plan.move (v := .int _ _) rfl rfl rfl ?_
              refine Plan.arithI rfl rfl rfl rfl rfl (by omega) ?_
              refine Plan.assign (v := .int _ _) rfl rfl rfl ?_
              refine Plan.done ?_
              exact ⟨g + 1, by simp only; omega, hlt, rfl, Ent.sub (.refl _), (by repeat (first | exact Agree.havoc _ _ _ | refine Agree.updN ?_ | refine Agree.upd rfl ?_ | refine Agree.updL rfl ?_ | refine Agree.havoc2 rfl ?_)), ⟨int_eq (by rw [bestI_take hlt, fitsI, decide_eq_true h49, decide_eq_true h57]; rfl), rfl, trivial⟩⟩
            · replace h57 := of_decide_eq_false h57
              refine Plan.pick (v := .bool _) rfl rfl rfl rfl ?_
              refine Plan.done ?_
              refine HW.cond_false rfl ?_
              refine HW.skip ?_
              refine HW.region [(0, .st), (1, .st), (2, .st)] rfl rfl ?_
              refine Plan.move (v := .int _ _) rfl rfl rfl ?_
              refine Plan.arithI rfl rfl rfl rfl rfl (by omega) ?_
              refine Plan.assign (v := .int _ _) rfl rfl rfl ?_
              refine Plan.done ?_
              exact ⟨g + 1, by simp only; omega, hlt, rfl, Ent.sub (.refl _), (by repeat (first | exact Agree.havoc _ _ _ | refine Agree.updN ?_ | refine Agree.upd rfl ?_ | refine Agree.updL rfl ?_ | refine Agree.havoc2 rfl ?_)), ⟨int_eq (by rw [bestI_take hlt, fitsI, decide_eq_false h57, Bool.and_false, if_neg (by decide)]), rfl, trivial⟩⟩
          · replace h49 := of_decide_eq_false h49
            refine Plan.move (v := .bool _) rfl rfl rfl ?_
            refine Plan.no rfl rfl ?_
            refine Plan.no rfl rfl ?_
            refine Plan.no rfl rfl ?_
            refine Plan.no rfl rfl ?_
            refine Plan.no rfl rfl ?_
            refine Plan.no rfl rfl ?_
            refine Plan.no rfl rfl ?_
            refine Plan.pick (v := .bool _) rfl rfl rfl rfl ?_
            refine Plan.done ?_
            refine HW.cond_false rfl ?_
            refine HW.skip ?_
            refine HW.region [(0, .st), (1, .st), (2, .st)] rfl rfl ?_
            refine Plan.move (v := .int _ _) rfl rfl rfl ?_
            refine Plan.arithI rfl rfl rfl rfl rfl (by omega) ?_
            refine Plan.assign (v := .int _ _) rfl rfl rfl ?_
            refine Plan.done ?_
            exact ⟨g + 1, by simp only; omega, hlt, rfl, Ent.sub (.refl _), (by repeat (first | exact Agree.havoc _ _ _ | refine Agree.updN ?_ | refine Agree.upd rfl ?_ | refine Agree.updL rfl ?_ | refine Agree.havoc2 rfl ?_)), ⟨int_eq (by rw [bestI_take hlt, fitsI, decide_eq_false h49, Bool.false_and, if_neg (by decide)]), rfl, trivial⟩⟩
        · replace h40 := of_decide_eq_false h40
          have hge : l.take g = l := List.take_of_length_le (by omega)
          rw [hge]
          refine Plan.done ?_
          refine HW.cond_false rfl ?_
          refine HW.exit ?_
          refine HW.seq ?_
          refine HW.seq (HW.region [(0, .st)] rfl rfl ?_)
          refine Plan.assign (v := .int _ _) rfl rfl rfl ?_
          refine Plan.done ?_
          refine HW.block ?_
          refine HW.loopC (G := Nat) [10, 12, 66, 67, 68, 69, 70, 71, 72, 73, 74, 75, 76, 77, 78, 79, 80, 81, 82, 83, 84, 85, 86, 87, 88, 89] (fun g => [(10, int (most (fun c => W l (c + 1) y + W l (rows.length - (c + 1)) y) (bestI l rows.length y 0) g)), (12, int (g + 1))]) (fun g => g ≤ rows.length - 1) (fun g => rows.length - 1 - g) (0) ⟨rfl, rfl, trivial⟩ (Nat.zero_le _) (fun g F hok => ?_)
          refine HW.seq ?_
          refine HW.seq (HW.region [(0, .st), (1, .st), (2, .st)] rfl rfl ?_)
          refine Plan.move (v := .int _ _) rfl rfl rfl ?_
          refine Plan.move (v := .int _ _) rfl rfl rfl ?_
          refine Plan.cmp2 rfl rfl rfl rfl rfl (fun h68 => ?_) (fun h68 => ?_)
          · replace h68 := of_decide_eq_true h68
            have hg1 : g + 1 < rows.length := by omega
            obtain ⟨r1, s1, v1⟩ := hold (g + 1) (by omega) hg1
            obtain ⟨r2, s2, v2⟩ := hold (rows.length - (g + 1)) (by omega) (by omega)
            have q1 := W_bds hl (a := g + 1) (b := y) (by omega) y1 (by omega) (by omega)
            have q2 := W_bds hl (a := rows.length - (g + 1)) (b := y) (by omega) y1 (by omega) (by omega)
            refine Plan.done ?_
            refine HW.cond_true rfl ?_
            refine HW.skip ?_
            refine HW.seq ?_
            refine HW.block ?_
            refine HW.region_any [] [(0, .st), (1, .st), (2, .st), (3, .st), (4, .st), (5, .st), (6, .st), (7, .st), (8, .st), (9, .st), (10, .st), (11, .st), (12, .st), (13, .st), (14, .st), (15, .st), (16, .st), (17, .st), (18, .st), (19, .st)] mix (by kernel_rfl) (fun _ _ _ _ _ h => h) (zeros rfl) ?_
            refine Plan.move (v := .int _ _) rfl rfl rfl ?_
            refine Plan.move (v := .slice _ _ _) rfl rfl rfl ?_
            refine Plan.move (v := .int _ _) rfl rfl rfl ?_
            refine Plan.indexN ((g + 1)) rfl rfl slSsint sizSsint rfl rfl rfl rfl ((by omega)) ?_
            refine Plan.load (v := .slice _ _ _) rfl rfl agg_int rfl (s1 _) ?_
            refine Plan.move (v := .int _ _) rfl rfl rfl ?_
            refine Plan.indexN (y) rfl rfl slI sizI rfl rfl rfl rfl (hyb) ?_
            refine Plan.load (v := .int _ _) rfl rfl aggI rfl (v1 _) ?_
            refine Plan.move (v := .slice _ _ _) rfl rfl rfl ?_
            refine Plan.move (v := .int _ _) rfl rfl rfl ?_
            refine Plan.move (v := .int _ _) rfl rfl rfl ?_
            refine Plan.arithI rfl rfl rfl rfl rfl (by omega) ?_
            refine Plan.indexN ((rows.length - (g + 1))) rfl rfl slSsint sizSsint rfl rfl rfl (by omega) ((by omega)) ?_
            refine Plan.load (v := .slice _ _ _) rfl rfl agg_int rfl (s2 _) ?_
            refine Plan.move (v := .int _ _) rfl rfl rfl ?_
            refine Plan.indexN (y) rfl rfl slI sizI rfl rfl rfl rfl (hyb) ?_
            refine Plan.load (v := .int _ _) rfl rfl aggI rfl (v2 _) ?_
            refine Plan.arithI rfl rfl rfl rfl rfl (by omega) ?_
            refine Plan.max rfl rfl rfl rfl ?_
            refine Plan.assign (v := .int _ _) rfl rfl rfl ?_
            refine Plan.done ?_
            refine HW.region [(0, .st), (1, .st), (2, .st)] rfl rfl ?_
            refine Plan.move (v := .int _ _) rfl rfl rfl ?_
            refine Plan.arithI rfl rfl rfl rfl rfl (by omega) ?_
            refine Plan.assign (v := .int _ _) rfl rfl rfl ?_
            refine Plan.done ?_
            exact ⟨g + 1, by simp only; omega, by simp only; omega, rfl, Ent.sub (.refl _), (by repeat (first | exact Agree.havoc _ _ _ | refine Agree.updN ?_ | refine Agree.upd rfl ?_ | refine Agree.updL rfl ?_ | refine Agree.havoc2 rfl ?_)), ⟨rfl, rfl, trivial⟩⟩
          · replace h68 := of_decide_eq_false h68
            have hge4 : g = rows.length - 1 := by omega
            subst hge4
            refine Plan.done ?_
            refine HW.cond_false rfl ?_
            refine HW.exit ?_
            refine HW.seq ?_
            refine HW.seq (HW.region [(0, .st)] rfl rfl ?_)
            refine Plan.assign (v := .int _ _) rfl rfl rfl ?_
            refine Plan.done ?_
            refine HW.block ?_
            refine HW.loopC (G := Nat) [10, 13, 90, 91, 92, 93, 94, 95, 96, 97, 98, 99, 100, 101, 102, 103, 104, 105, 106, 107, 108, 109, 110, 111, 112, 113] (fun g => [(10, int (most (fun c => W l rows.length (c + 1) + W l rows.length (y - (c + 1))) (most (fun c => W l (c + 1) y + W l (rows.length - (c + 1)) y) (bestI l rows.length y 0) (rows.length - 1)) g)), (13, int (g + 1))]) (fun g => g ≤ y - 1) (fun g => y - 1 - g) (0) ⟨rfl, rfl, trivial⟩ (Nat.zero_le _) (fun g F hok => ?_)
            refine HW.seq ?_
            refine HW.seq (HW.region [(0, .st), (1, .st), (2, .st)] rfl rfl ?_)
            refine Plan.move (v := .int _ _) rfl rfl rfl ?_
            refine Plan.move (v := .int _ _) rfl rfl rfl ?_
            refine Plan.cmp2 rfl rfl rfl rfl rfl (fun h92 => ?_) (fun h92 => ?_)
            · replace h92 := of_decide_eq_true h92
              have hg1 : g + 1 < y := by omega
              have q1 := W_bds hl (a := rows.length) (b := g + 1) hx0 (by omega) (by omega) (by omega)
              have q2 := W_bds hl (a := rows.length) (b := y - (g + 1)) hx0 (by omega) (by omega) (by omega)
              refine Plan.done ?_
              refine HW.cond_true rfl ?_
              refine HW.skip ?_
              refine HW.seq ?_
              refine HW.block ?_
              refine HW.region_any [] [(0, .st), (1, .st), (2, .st), (3, .st), (4, .st), (5, .st), (6, .st), (7, .st), (8, .st), (9, .st), (10, .st), (11, .st), (12, .st), (13, .st), (14, .st), (15, .st), (16, .st), (17, .st), (18, .st), (19, .st)] mix (by kernel_rfl) (fun _ _ _ _ _ h => h) (zeros rfl) ?_
              refine Plan.move (v := .int _ _) rfl rfl rfl ?_
              refine Plan.move (v := .slice _ _ _) rfl rfl rfl ?_
              refine Plan.move (v := .int _ _) rfl rfl rfl ?_
              refine Plan.indexN (rows.length) rfl rfl slSsint sizSsint rfl rfl rfl rfl ((by omega)) ?_
              refine Plan.load (v := .slice _ _ _) rfl rfl agg_int rfl (sx _) ?_
              refine Plan.move (v := .int _ _) rfl rfl rfl ?_
              refine Plan.indexN ((g + 1)) rfl rfl slI sizI rfl rfl rfl rfl ((by omega)) ?_
              refine Plan.load (v := .int _ _) rfl rfl aggI rfl (vx (g + 1) (by omega) hg1 _) ?_
              refine Plan.move (v := .slice _ _ _) rfl rfl rfl ?_
              refine Plan.move (v := .int _ _) rfl rfl rfl ?_
              refine Plan.indexN (rows.length) rfl rfl slSsint sizSsint rfl rfl rfl rfl ((by omega)) ?_
              refine Plan.load (v := .slice _ _ _) rfl rfl agg_int rfl (sx _) ?_
              refine Plan.move (v := .int _ _) rfl rfl rfl ?_
              refine Plan.move (v := .int _ _) rfl rfl rfl ?_
              refine Plan.arithI rfl rfl rfl rfl rfl (by omega) ?_
              refine Plan.indexN ((y - (g + 1))) rfl rfl slI sizI rfl rfl rfl (by omega) ((by omega)) ?_
              refine Plan.load (v := .int _ _) rfl rfl aggI rfl (vx (y - (g + 1)) (by omega) (by omega) _) ?_
              refine Plan.arithI rfl rfl rfl rfl rfl (by omega) ?_
              refine Plan.max rfl rfl rfl rfl ?_
              refine Plan.assign (v := .int _ _) rfl rfl rfl ?_
              refine Plan.done ?_
              refine HW.region [(0, .st), (1, .st), (2, .st)] rfl rfl ?_
              refine Plan.move (v := .int _ _) rfl rfl rfl ?_
              refine Plan.arithI rfl rfl rfl rfl rfl (by omega) ?_
              refine Plan.assign (v := .int _ _) rfl rfl rfl ?_
              refine Plan.done ?_
              exact ⟨g + 1, by simp only; omega, by simp only; omega, rfl, Ent.sub (.refl _), (by repeat (first | exact Agree.havoc _ _ _ | refine Agree.updN ?_ | refine Agree.upd rfl ?_ | refine Agree.updL rfl ?_ | refine Agree.havoc2 rfl ?_)), ⟨rfl, rfl, trivial⟩⟩
            · replace h92 := of_decide_eq_false h92
              have hge5 : g = y - 1 := by omega
              subst hge5
              have hlh : rows.length < (hdrs (b + 1) (a + 1) (rows ++ [(b26, cur l (b + 1) rows.length y)])).length := by rw [hdrs_len hWl]; omega
              refine Plan.done ?_
              refine HW.cond_false rfl ?_
              refine HW.exit ?_
              refine HW.region [(0, .st), (1, .st), (2, .st), (3, .st), (4, .st), (5, .st), (6, .st), (7, .ef)] rfl rfl ?_
              refine Plan.move (v := .slice _ _ _) rfl rfl rfl ?_
              refine Plan.move (v := .int _ _) rfl rfl rfl ?_
              refine Plan.indexN (rows.length) rfl rfl slSsint sizSsint rfl rfl rfl rfl ((by omega)) ?_
              refine Plan.load (v := .slice _ _ _) rfl rfl agg_int rfl (Sees.ownW (en := encH) 0 encH1 rfl b16 rfl rows.length hlh (hdrs_last hlh)) ?_
              refine Plan.move (v := .int _ _) rfl rfl rfl ?_
              refine Plan.move (v := .int _ _) rfl rfl rfl ?_
              refine Plan.indexN (y) rfl rfl slI sizI rfl rfl rfl rfl (hyb) ?_
              refine Plan.storeOwn (enc := encI) (sz := 1) ((tBest l rows.length y)) (y) ((rows.length + 1)) rfl rfl hDn sizI encI1 encIo rfl rfl rfl tabL_last rfl ((by rw [cur_len]; exact hyb)) ?_
              refine Plan.done ?_
              refine HW.region [(0, .st), (1, .st), (2, .st)] rfl rfl ?_
              refine Plan.move (v := .int _ _) rfl rfl rfl ?_
              refine Plan.arithI rfl rfl rfl rfl rfl (by omega) ?_
              refine Plan.assign (v := .int _ _) rfl rfl rfl ?_
              refine Plan.done ?_
              exact ⟨⟨y + 1⟩, by dsimp only; omega, ⟨by show 1 ≤ y + 1; omega, by show y + 1 ≤ b + 1; omega, fun h => by omega⟩, rfl, (fun w' hm => by
                  rw [tabL_setlast, tBest_eq l hx0 y1, ← Vt_pos (l := l) hx0 y1, cur_set hyb] at hm
                  exact hm), (by repeat (first | exact Agree.havoc _ _ _ | refine Agree.updN ?_ | refine Agree.upd rfl ?_ | refine Agree.updL rfl ?_ | refine Agree.havoc2 rfl ?_)), ⟨rfl, trivial⟩⟩
      · replace h33 := of_decide_eq_false h33
        have hx0 : rows.length = 0 := by omega
        have hcz : cur l (b + 1) rows.length y = cur l (b + 1) rows.length (b + 1) := by rw [hx0, cur_zero, cur_zero]
        refine Plan.pick (v := .bool _) rfl rfl rfl rfl ?_
        refine Plan.done ?_
        refine HW.cond_false rfl ?_
        refine HW.exit ?_
        refine HW.region [(0, .st), (1, .st), (2, .st)] rfl rfl ?_
        refine Plan.move (v := .int _ _) rfl rfl rfl ?_
        refine Plan.arithI rfl rfl rfl rfl rfl (by omega) ?_
        refine Plan.assign (v := .int _ _) rfl rfl rfl ?_
        refine Plan.done ?_
        exact ⟨⟨rows ++ [(b26, cur l (b + 1) rows.length y)]⟩, by simp; omega, ⟨by simp; omega, row_done hr2 hcz⟩, rfl, Ent.refl _ _, (by repeat (first | exact Agree.havoc _ _ _ | refine Agree.updN ?_ | refine Agree.upd rfl ?_ | refine Agree.updL rfl ?_ | refine Agree.havoc2 rfl ?_)), ⟨int_eq (by simp), trivial⟩⟩
    · replace h30 := of_decide_eq_false h30
      have hye : y = b + 1 := by omega
      have hcz : cur l (b + 1) rows.length y = cur l (b + 1) rows.length (b + 1) := by rw [hye]
      refine Plan.move (v := .bool _) rfl rfl rfl ?_
      refine Plan.no rfl rfl ?_
      refine Plan.no rfl rfl ?_
      refine Plan.pick (v := .bool _) rfl rfl rfl rfl ?_
      refine Plan.done ?_
      refine HW.cond_false rfl ?_
      refine HW.exit ?_
      refine HW.region [(0, .st), (1, .st), (2, .st)] rfl rfl ?_
      refine Plan.move (v := .int _ _) rfl rfl rfl ?_
      refine Plan.arithI rfl rfl rfl rfl rfl (by omega) ?_
      refine Plan.assign (v := .int _ _) rfl rfl rfl ?_
      refine Plan.done ?_
      exact ⟨⟨rows ++ [(b26, cur l (b + 1) rows.length y)]⟩, by simp; omega, ⟨by simp; omega, row_done hr2 hcz⟩, rfl, Ent.refl _ _, (by repeat (first | exact Agree.havoc _ _ _ | refine Agree.updN ?_ | refine Agree.upd rfl ?_ | refine Agree.updL rfl ?_ | refine Agree.havoc2 rfl ?_)), ⟨int_eq (by simp), trivial⟩⟩
  · replace h19 := of_decide_eq_false h19
    have hxe : rows.length = a + 1 := by omega
    refine Plan.done ?_
    refine HW.cond_false rfl ?_
    refine HW.exit ?_
    refine HW.seq (HW.region [(0, .st), (1, .st)] rfl rfl ?_)
    refine Plan.move (v := .slice _ _ _) rfl rfl rfl ?_
    refine Plan.assign (v := .slice _ _ _) rfl rfl rfl ?_
    refine Plan.done ?_
    exact HW.ret ⟨rfl, _, tabL b16 (a + 1) (b + 1) rows, .tmp rfl .nil, .refl _, b16, rows, rfl, rfl, hxe, hr2⟩

end Go.Proofs.Ytjmklbkcpjmcaaa.V
