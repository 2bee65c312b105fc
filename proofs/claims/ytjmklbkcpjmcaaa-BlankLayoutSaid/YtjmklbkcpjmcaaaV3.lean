/-
  lower, and slices.SortFunc by it (the library's proof of pdqsort, laid at this program).
-/
import Derived.Test.YtjmklbkcpjmcaaaV2
import Derived.Test.YtjmklbkcpjmcaaaSh
namespace Go.Proofs.Ytjmklbkcpjmcaaa.V
open Go Go.RowKit Go.Proofs.Ytjmklbkcpjmcaaa.H
set_option linter.unusedVariables false
set_option linter.unusedSimpArgs false

theorem slI : P.underlying 43 = some (.slice 3) := by kernel_rfl
theorem bsI2 (a b : Int) (w : World) : (Instr.buildSlice 43 2 #[(0, int a), (1, int b)]).run P w = .ok (.slice (some ⟨w.heap.size, 0, none⟩) 2 2) (w.alloc (.cells #[int a, int b] 3 (0, 0))) := by kernel_rfl
abbrev encI (x : Int) : List Value := [int x]
theorem encI1 (x : Int) : (encI x).length = 1 := rfl

theorem isNaN_ct (a : Int) (w : World) : Ct P 87 #[int a] w [] (fun v L => v = .bool false ∧ L = []) := by
  refine Ct.of_body (rs := [.tmp 2]) (N := 6) (L := []) Try.func87 rfl rfl rfl (by kernel_rfl) rfl (Mem.refl w) ?_
  refine HW.seq (HW.region [(0, .st)] rfl rfl ?_)
  refine Plan.assign (v := .bool _) rfl rfl rfl ?_
  refine Plan.done ?_
  refine HW.seq (HW.region [(0, .st), (1, .st), (2, .st), (3, .st)] rfl rfl ?_)
  refine Plan.move (v := .int _ _) rfl rfl rfl ?_
  refine Plan.move (v := .int _ _) rfl rfl rfl ?_
  refine Plan.cmp2 rfl rfl rfl rfl rfl (fun h5 => ?_) (fun h5 => ?_)
  · replace h5 := ne_of_t h5
    refine Plan.assign (v := .bool _) rfl rfl rfl ?_
    refine Plan.done ?_
    exact HW.ret ⟨rfl, _, [], .tmp rfl .nil, List.nil_sublist _, absurd rfl h5, rfl⟩
  · replace h5 := eq_of_f h5
    refine Plan.assign (v := .bool _) rfl rfl rfl ?_
    refine Plan.done ?_
    exact HW.ret ⟨rfl, _, [], .tmp rfl .nil, List.nil_sublist _, rfl, rfl⟩

def cmpI (x y : Int) : Int := if x < y then -1 else if x > y then 1 else 0

theorem compare_ct (a b : Int) (w : World) : Ct P 62 #[int a, int b] w [] (fun v L => v = int (cmpI a b) ∧ L = []) := by
  have ht : ∀ {p : Int}, p = cmpI a b → (int p = int (cmpI a b)) := fun h => by rw [h]
  refine Ct.of_body (rs := [.tmp 4]) (N := 20) (L := []) Try.func62 rfl rfl rfl (by kernel_rfl) rfl (Mem.refl w) ?_
  refine HW.seq (HW.region [(0, .st)] rfl rfl ?_)
  refine Plan.assign (v := .int _ _) rfl rfl rfl ?_
  refine Plan.done ?_
  refine HW.seq (HW.region [(0, .st), (1, .ef), (2, .st)] rfl rfl ?_)
  refine Plan.move (v := .int _ _) rfl rfl rfl ?_
  refine Plan.callF [] 0 rfl rfl rfl (.inl rfl) (by simp) (fun w hm => isNaN_ct _ _) ?_   -- cmp.isNaN[int]
  rintro v Ln ⟨rfl, rfl⟩
  refine Plan.splitB (fun h8 => ?_) (fun h8 => ?_)
  · skip
    refine Plan.assign (v := .bool _) rfl rfl rfl ?_
    refine Plan.done ?_
    refine HW.seq (HW.region [(0, .st), (1, .ef), (2, .st)] rfl rfl ?_)
    refine Plan.move (v := .int _ _) rfl rfl rfl ?_
    refine Plan.callF [] 0 rfl rfl rfl (.inl rfl) (by simp) (fun w hm => isNaN_ct _ _) ?_   -- cmp.isNaN[int]
    rintro v Ln ⟨rfl, rfl⟩
    refine Plan.splitB (fun h10 => ?_) (fun h10 => ?_)
    · skip
      refine Plan.assign (v := .bool _) rfl rfl rfl ?_
      refine Plan.done ?_
      refine HW.seq ?_
      refine HW.seq (HW.region [(0, .st)] rfl rfl ?_)
      refine Plan.move (v := .bool _) rfl rfl rfl ?_
      refine Plan.done ?_
      refine HW.cond_true rfl ?_
      refine HW.seq ?_
      refine HW.seq (HW.region [(0, .st)] rfl rfl ?_)
      refine Plan.move (v := .bool _) rfl rfl rfl ?_
      refine Plan.done ?_
      refine HW.cond_true rfl ?_
      refine HW.seq (HW.region [(0, .st)] rfl rfl ?_)
      refine Plan.assign (v := .int _ _) rfl rfl rfl ?_
      refine Plan.done ?_
      exact HW.ret ⟨rfl, _, [], .tmp rfl .nil, List.nil_sublist _, ht (by unfold cmpI; (repeat' split) <;> first | rfl | omega | contradiction), rfl⟩
    · skip
      refine Plan.assign (v := .bool _) rfl rfl rfl ?_
      refine Plan.done ?_
      refine HW.seq ?_
      refine HW.seq (HW.region [(0, .st)] rfl rfl ?_)
      refine Plan.move (v := .bool _) rfl rfl rfl ?_
      refine Plan.done ?_
      refine HW.cond_true rfl ?_
      refine HW.seq ?_
      refine HW.seq (HW.region [(0, .st)] rfl rfl ?_)
      refine Plan.move (v := .bool _) rfl rfl rfl ?_
      refine Plan.done ?_
      refine HW.cond_false rfl ?_
      refine HW.skip ?_
      refine HW.seq (HW.region [(0, .st)] rfl rfl ?_)
      refine Plan.assign (v := .int _ _) rfl rfl rfl ?_
      refine Plan.done ?_
      exact HW.ret ⟨rfl, _, [], .tmp rfl .nil, List.nil_sublist _, ht (by unfold cmpI; (repeat' split) <;> first | rfl | omega | contradiction), rfl⟩
  · skip
    refine Plan.assign (v := .bool _) rfl rfl rfl ?_
    refine Plan.done ?_
    refine HW.seq (HW.region [(0, .st), (1, .ef), (2, .st)] rfl rfl ?_)
    refine Plan.move (v := .int _ _) rfl rfl rfl ?_
    refine Plan.callF [] 0 rfl rfl rfl (.inl rfl) (by simp) (fun w hm => isNaN_ct _ _) ?_   -- cmp.isNaN[int]
    rintro v Ln ⟨rfl, rfl⟩
    refine Plan.splitB (fun h10 => ?_) (fun h10 => ?_)
    · skip
      refine Plan.assign (v := .bool _) rfl rfl rfl ?_
      refine Plan.done ?_
      refine HW.seq ?_
      refine HW.seq (HW.region [(0, .st)] rfl rfl ?_)
      refine Plan.move (v := .bool _) rfl rfl rfl ?_
      refine Plan.done ?_
      refine HW.cond_false rfl ?_
      refine HW.skip ?_
      refine HW.seq ?_
      refine HW.seq (HW.region [(0, .st)] rfl rfl ?_)
      refine Plan.move (v := .bool _) rfl rfl rfl ?_
      refine Plan.done ?_
      refine HW.cond_true rfl ?_
      refine HW.seq (HW.region [(0, .st)] rfl rfl ?_)
      refine Plan.assign (v := .int _ _) rfl rfl rfl ?_
      refine Plan.done ?_
      exact HW.ret ⟨rfl, _, [], .tmp rfl .nil, List.nil_sublist _, ht (by unfold cmpI; (repeat' split) <;> first | rfl | omega | contradiction), rfl⟩
    · skip
      refine Plan.assign (v := .bool _) rfl rfl rfl ?_
      refine Plan.done ?_
      refine HW.seq ?_
      refine HW.seq (HW.region [(0, .st)] rfl rfl ?_)
      refine Plan.move (v := .bool _) rfl rfl rfl ?_
      refine Plan.done ?_
      refine HW.cond_false rfl ?_
      refine HW.skip ?_
      refine HW.seq ?_
      refine HW.seq (HW.region [(0, .st)] rfl rfl ?_)
      refine Plan.move (v := .bool _) rfl rfl rfl ?_
      refine Plan.done ?_
      refine HW.cond_false rfl ?_
      refine HW.skip ?_
      refine HW.seq ?_
      refine HW.seq (HW.region [(0, .st), (1, .st), (2, .st)] rfl rfl ?_)
      refine Plan.move (v := .int _ _) rfl rfl rfl ?_
      refine Plan.move (v := .int _ _) rfl rfl rfl ?_
      refine Plan.cmp2 rfl rfl rfl rfl rfl (fun h16 => ?_) (fun h16 => ?_)
      · replace h16 := of_decide_eq_true h16
        refine Plan.done ?_
        refine HW.cond_true rfl ?_
        refine HW.seq (HW.region [(0, .st)] rfl rfl ?_)
        refine Plan.assign (v := .int _ _) rfl rfl rfl ?_
        refine Plan.done ?_
        exact HW.ret ⟨rfl, _, [], .tmp rfl .nil, List.nil_sublist _, ht (by unfold cmpI; (repeat' split) <;> first | rfl | omega | contradiction), rfl⟩
      · replace h16 := of_decide_eq_false h16
        refine Plan.done ?_
        refine HW.cond_false rfl ?_
        refine HW.skip ?_
        refine HW.seq ?_
        refine HW.seq (HW.region [(0, .st), (1, .st), (2, .st)] rfl rfl ?_)
        refine Plan.move (v := .int _ _) rfl rfl rfl ?_
        refine Plan.move (v := .int _ _) rfl rfl rfl ?_
        refine Plan.cmp2 rfl rfl rfl rfl rfl (fun h19 => ?_) (fun h19 => ?_)
        · replace h19 := of_decide_eq_true h19
          refine Plan.done ?_
          refine HW.cond_true rfl ?_
          refine HW.seq (HW.region [(0, .st)] rfl rfl ?_)
          refine Plan.assign (v := .int _ _) rfl rfl rfl ?_
          refine Plan.done ?_
          exact HW.ret ⟨rfl, _, [], .tmp rfl .nil, List.nil_sublist _, ht (by unfold cmpI; (repeat' split) <;> first | rfl | omega | contradiction), rfl⟩
        · replace h19 := of_decide_eq_false h19
          refine Plan.done ?_
          refine HW.cond_false rfl ?_
          refine HW.skip ?_
          refine HW.seq (HW.region [(0, .st)] rfl rfl ?_)
          refine Plan.assign (v := .int _ _) rfl rfl rfl ?_
          refine Plan.done ?_
          exact HW.ret ⟨rfl, _, [], .tmp rfl .nil, List.nil_sublist _, ht (by unfold cmpI; (repeat' split) <;> first | rfl | omega | contradiction), rfl⟩

def orL : List Int → Int
  | [] => 0
  | x :: xs => if x ≠ 0 then x else orL xs

theorem or_ct (A : Option Addr) (xs : List Int) (c : Nat) (w : World) (hp : Rd encI 1 w A xs) (hlen : xs.length ≤ 1099511627776) : Ct P 61 #[.slice A xs.length c] w [] (fun v L => v = int (orL xs) ∧ L = []) := by
  refine Ct.of_body (rs := [.tmp 2]) (N := 18) (L := []) Try.func61 rfl rfl rfl (by kernel_rfl) rfl (Mem.refl w) ?_
  refine HW.seq (HW.region [(0, .st)] rfl rfl ?_)
  refine Plan.assign (v := .int _ _) rfl rfl rfl ?_
  refine Plan.done ?_
  refine HW.seq (HW.region [(0, .st)] rfl rfl ?_)
  refine Plan.assign (v := .int _ _) rfl rfl rfl ?_
  refine Plan.done ?_
  refine HW.seq ?_
  refine HW.seq (HW.region [(0, .st), (1, .st), (2, .st)] rfl rfl ?_)
  refine Plan.move (v := .slice _ _ _) rfl rfl rfl ?_
  refine Plan.len rfl rfl slI rfl ?_
  refine Plan.move (v := .int _ _) rfl rfl rfl ?_
  refine Plan.done ?_
  refine HW.block ?_
  refine HW.loopC (G := Nat) [2, 5, 8, 9, 10, 11, 12, 13, 14, 15, 16] (fun g => [(8, int g)]) (fun g => g ≤ xs.length ∧ orL (xs.drop g) = orL xs) (fun g => xs.length - g) (0) ⟨rfl, trivial⟩ (⟨Nat.zero_le _, rfl⟩) (fun g F hok => ?_)
  obtain ⟨hk, hor⟩ := hok
  refine HW.seq (HW.region [(0, .st)] rfl rfl ?_)
  refine Plan.cmp2 rfl rfl rfl rfl rfl (fun h9 => ?_) (fun h9 => ?_)
  · replace h9 := of_decide_eq_true h9
    have hlt : g < xs.length := by omega
    obtain ⟨ad, rfl, hl⟩ := hp g hlt
    rw [List.drop_eq_getElem_cons hlt, orL] at hor
    refine Plan.done ?_
    refine HW.seq ?_
    refine HW.cond_true rfl ?_
    refine HW.skip ?_
    refine HW.seq ?_
    refine HW.block ?_
    refine HW.seq (HW.region [(0, .st), (1, .st), (2, .st)] rfl rfl ?_)
    refine Plan.indexN g rfl rfl slI sizI rfl rfl rfl rfl hlt ?_
    refine Plan.load (v := .int _ _) rfl rfl aggI rfl (Sees.old hl (by simp)) ?_
    refine Plan.assign (v := .int _ _) rfl rfl rfl ?_
    refine Plan.done ?_
    refine HW.seq (HW.region [(0, .st), (1, .st), (2, .st)] rfl rfl ?_)
    refine Plan.move (v := .int _ _) rfl rfl rfl ?_
    refine Plan.move (v := .int _ _) rfl rfl rfl ?_
    refine Plan.cmp2 rfl rfl rfl rfl rfl (fun h14 => ?_) (fun h14 => ?_)
    · replace h14 := ne_of_t h14
      refine Plan.done ?_
      refine HW.cond_true rfl ?_
      refine HW.seq (HW.region [(0, .st), (1, .st)] rfl rfl ?_)
      refine Plan.move (v := .int _ _) rfl rfl rfl ?_
      refine Plan.assign (v := .int _ _) rfl rfl rfl ?_
      refine Plan.done ?_
      exact HW.ret ⟨rfl, _, [], .tmp rfl .nil, List.nil_sublist _, by rw [if_pos h14] at hor; rw [← hor]; rfl, rfl⟩
    · replace h14 := eq_of_f h14
      refine Plan.done ?_
      refine HW.cond_false rfl ?_
      refine HW.skip ?_
      refine HW.region [(0, .st), (1, .st)] rfl rfl ?_
      refine Plan.arithI rfl rfl rfl rfl rfl (by omega) ?_
      refine Plan.move (v := .int _ _) rfl rfl rfl ?_
      refine Plan.done ?_
      exact ⟨g + 1, by simp only; omega, ⟨hlt, by rw [if_neg (fun h => h h14)] at hor; exact hor⟩, rfl, (Ent.sub (.refl _)), (by repeat (first | exact Agree.havoc _ _ _ | refine Agree.updN ?_ | refine Agree.upd rfl ?_ | refine Agree.updL rfl ?_ | refine Agree.havoc2 rfl ?_)), ⟨rfl, trivial⟩⟩
  · replace h9 := of_decide_eq_false h9
    refine Plan.done ?_
    refine HW.seq ?_
    refine HW.cond_false rfl ?_
    refine HW.exit ?_
    refine HW.seq (HW.region [(0, .st), (1, .st)] rfl rfl ?_)
    refine Plan.move (v := .int _ _) rfl rfl rfl ?_
    refine Plan.assign (v := .int _ _) rfl rfl rfl ?_
    refine Plan.done ?_
    exact HW.ret ⟨rfl, _, [], .tmp rfl .nil, List.nil_sublist _, by rw [← hor, List.drop_of_length_le (by omega)]; rfl, rfl⟩

/-- lower, as a number -/
def lowI (a b : Pt) : Int := orL [cmpI a.2 b.2, cmpI a.1 b.1]

theorem lower_ct (a b : Pt) (w : World) : Ct P 109 #[vc a, vc b] w [] (fun v L => v = int (lowI a b) ∧ L = []) := by
  refine Ct.of_body (rs := [.tmp 4]) (N := 17) (L := []) Try.func109 rfl rfl rfl (by kernel_rfl) rfl (Mem.refl w) ?_
  refine HW.seq (HW.region [(0, .ef), (1, .ef), (2, .st)] rfl rfl ?_)
  refine Plan.boxA rfl rfl rfl fun b2 => ?_
  refine Plan.boxA rfl rfl rfl fun b3 => ?_
  refine Plan.assign (v := .int _ _) rfl rfl rfl ?_
  refine Plan.done ?_
  refine HW.seq (HW.region_any [] [(0, .st), (1, .st), (2, .st), (3, .st), (5, .st), (6, .st), (7, .st), (8, .st), (4, .ef), (9, .ef), (10, .ef), (11, .ef), (12, .st)] mix (by kernel_rfl) (fun _ _ _ _ _ h => h) (zeros rfl) ?_)
  refine Plan.fieldAddr rfl rfl fldV1 rfl ?_
  refine Plan.load (v := .int _ _) rfl rfl aggI rfl (Sees.one 1 rfl rfl) ?_
  refine Plan.fieldAddr rfl rfl fldV1 rfl ?_
  refine Plan.load (v := .int _ _) rfl rfl aggI rfl (Sees.one 0 rfl rfl) ?_
  refine Plan.fieldAddr rfl rfl fldV0 rfl ?_
  refine Plan.load (v := .int _ _) rfl rfl aggI rfl (Sees.one 1 rfl rfl) ?_
  refine Plan.fieldAddr rfl rfl fldV0 rfl ?_
  refine Plan.load (v := .int _ _) rfl rfl aggI rfl (Sees.one 0 rfl rfl) ?_
  refine Plan.callF [] 0 rfl rfl rfl (.inl rfl) (by simp) (fun w hm => compare_ct _ _ _) ?_   -- cmp.Compare[int]
  rintro v Ln ⟨rfl, rfl⟩
  refine Plan.callF [] 0 rfl rfl rfl (.inl rfl) (by simp) (fun w hm => compare_ct _ _ _) ?_   -- cmp.Compare[int]
  rintro v Ln ⟨rfl, rfl⟩
  refine Plan.buildOwn (xs := [cmpI a.2 b.2, cmpI a.1 b.1]) (enc := encI) (sz := 1) rfl rfl rfl (bsI2 _ _) rfl rfl (by simp) rfl fun b15 => ?_
  refine Plan.callF [] 0 rfl rfl rfl (.inl rfl) (by simp) (fun w hm => or_ct (some ⟨b15, 0, none⟩) [cmpI a.2 b.2, cmpI a.1 b.1] 2 w (Res.own_rd encI1 (hm.res _ List.mem_cons_self)) (by simp)) ?_   -- cmp.Or[int]
  rintro v Ln ⟨rfl, rfl⟩
  refine Plan.assign (v := .int _ _) rfl rfl rfl ?_
  refine Plan.done ?_
  exact HW.ret ⟨rfl, _, [], .tmp rfl .nil, List.nil_sublist _, rfl, rfl⟩

theorem flat_toList {α : Type} [Inhabited α] {enc : α → List Value} {k : Nat} (hk : ∀ x, (enc x).length = k) (h0 : 0 < k) (d : Array α) : (Sort.flatK enc k d).toList = d.toList.flatMap enc := by
  apply List.ext_getElem?
  intro t
  by_cases ht : t < d.size * k
  · have hi : t / k < d.toList.length := by simpa using Nat.div_lt_of_lt_mul (by rw [Nat.mul_comm]; exact ht)
    have hi2 : t / k < d.size := by simpa using hi
    have h1 := flatMap_get hk d.toList (t / k) hi (t % k) (Nat.mod_lt _ h0)
    rw [show t / k * k + t % k = t by rw [Nat.mul_comm]; exact Nat.div_add_mod t k] at h1
    rw [h1]
    have h2 := Sort.get_flatK enc k d t ht
    have hs : t < (Sort.flatK enc k d).size := by simpa using ht
    rw [getElem!_pos _ t hs, getElem!_pos d (t / k) hi2, getElem!_pos _ (t % k) (by rw [hk]; exact Nat.mod_lt _ h0)] at h2
    have hm : t % k < (enc d.toList[t / k]).length := by rw [hk]; exact Nat.mod_lt _ h0
    rw [Array.getElem?_toList, Array.getElem?_eq_getElem hs, h2, List.getElem?_eq_getElem hm]
    rfl
  · rw [List.getElem?_eq_none (by simpa using ht), List.getElem?_eq_none (by rw [length_flatMap hk]; simpa using ht)]

theorem holdsK_own {α : Type} [Inhabited α] {enc : α → List Value} {k : Nat} {e : TypeId} {b c : Nat} {xs : List α} {w : World} (hk : ∀ x, (enc x).length = k) (h0 : 0 < k) (h : (Res.own enc k e (some b) c xs).holds w) :
    Sort.HoldsK enc k w b 0 xs.toArray := by
  obtain ⟨cur, h1, h2, h3, h4, h5⟩ := Res.own_cells h b rfl
  intro j hj
  have hj2 : j < xs.length * k := by simpa using hj
  have hF := flat_toList hk h0 xs.toArray
  simp only [List.toList_toArray] at hF
  constructor
  · rw [Nat.zero_add, cell_of_heap h1]
    have h6 : cur.toList[j]? = (Sort.flatK enc k xs.toArray).toList[j]? := by
      rw [hF, ← h5, List.getElem?_take_of_lt hj2]
    rw [Array.getElem?_toList, Array.getElem?_toList, Array.getElem?_eq_getElem hj] at h6
    rw [h6, getElem!_pos _ j hj]; rfl
  · simp [World.frozen?, h1]

theorem mem_sortWorld {α : Type} [Inhabited α] {enc : α → List Value} {k : Nat} {e : TypeId} {b c : Nat} {xs : List α} {w : World} (hk : ∀ x, (enc x).length = k) (h0 : 0 < k) (h : (Res.own enc k e (some b) c xs).holds w)
    (d : Array α) (hd : d.size = xs.length) (n : Nat) (os : Array Obj) : Mem w [b] [Res.own enc k e (some b) c d.toList] (sortWorldK enc k w b 0 n d os) := by
  obtain ⟨cur, h1, h2, h3, h4, h5⟩ := Res.own_cells h b rfl
  have hb : b < w.heap.size := (Array.getElem?_eq_some_iff.1 h1).1
  have hheap : ∀ j, j < w.heap.size → (sortWorldK enc k w b 0 n d os).heap[j]? = if b = j then (w.heap[j]?).map (Sort.onCells (Sort.putCells id 0 (Sort.flatK enc k d))) else w.heap[j]? := by
    intro j hj
    unfold sortWorldK Sort.putRowK Sort.putRow Sort.mapBlock Sort.grow Sort.ahead
    simp only [Array.getElem?_append, Array.size_modify, hj, if_true, Array.getElem?_modify]
  have hblk : (sortWorldK enc k w b 0 n d os).heap[b]? = some (.cells (Sort.putCells id 0 (Sort.flatK enc k d) cur) e (0, 0)) := by
    rw [hheap b hb, if_pos rfl, h1]; rfl
  have hF := flat_toList hk h0 d
  have hFl : (Sort.flatK enc k d).size = xs.length * k := by simp [hd]
  have hle : xs.length * k ≤ c * k := Nat.mul_le_mul_right _ h3
  refine ⟨rfl, rfl, Nat.le_add_right _ _, rfl, ?_, ?_, ?_, ?_, List.pairwise_singleton _ _⟩
  · simp [sortWorldK, Sort.putRowK, Sort.putRow, Sort.mapBlock, Sort.grow, Sort.ahead]
  · intro j hj hX
    rw [hheap j hj, if_neg (fun e => hX (by rw [e]; exact List.mem_singleton.2 rfl))]
  · intro r hr
    obtain rfl := List.mem_singleton.1 hr
    have hl : d.toList.length = xs.length := by simpa using hd
    refine ⟨length_flatMap hk _, .inr ⟨b, c, _, rfl, Nat.zero_le _, hblk, by rw [hl]; exact h3, h4, by simpa [Sort.putCells] using h2, ?_⟩⟩
    rw [hl, ← hF]
    apply List.ext_getElem?
    intro t
    by_cases ht : t < xs.length * k
    · rw [List.getElem?_take_of_lt ht, Array.getElem?_toList, Array.getElem?_toList]
      have hs : t < (Sort.flatK enc k d).size := by omega
      have hc : t < cur.size := by omega
      simp only [Sort.putCells, Array.getElem?_mapIdx, Array.getElem?_eq_getElem hc, Option.map_some, Nat.zero_add, Nat.zero_le, true_and, hs, if_true, Nat.sub_zero, id, Array.getElem?_eq_getElem hs]
      rw [getElem!_pos _ t hs]
    · rw [List.getElem?_eq_none (by simp; omega), List.getElem?_eq_none (by simp [hd]; omega)]
  · intro r hr j hj
    obtain rfl := List.mem_singleton.1 hr
    obtain rfl := List.mem_singleton.1 hj
    refine ⟨?_, .inr (List.mem_singleton.2 rfl)⟩
    have : w.heap.size ≤ (sortWorldK enc k w j 0 n d os).heap.size := by simp [sortWorldK, Sort.putRowK, Sort.putRow, Sort.mapBlock, Sort.grow, Sort.ahead]
    omega

/-- memory that no block has changed: the world has grown -/
theorem grow_of_mem {w w' : World} {L : List Res} (h : Mem w [] L w') : ∃ q os', w' = Sort.grow (w.drewN q) os' := by
  refine ⟨w'.drawn - w.drawn, w'.heap.extract w.heap.size w'.heap.size, ?_⟩
  have hd := h.dr
  have hh : w'.heap = w.heap ++ w'.heap.extract w.heap.size w'.heap.size := by
    apply Array.ext_getElem?
    intro k
    rw [Array.getElem?_append]
    by_cases hk : k < w.heap.size
    · rw [if_pos hk, h.old k hk (by simp)]
    · have hs := h.size
      rw [if_neg hk, Array.getElem?_extract]
      by_cases hk2 : k < w'.heap.size
      · rw [if_pos (by omega), show w.heap.size + (k - w.heap.size) = k by omega]
      · rw [if_neg (by omega), Array.getElem?_eq_none (by omega)]
  obtain ⟨hp, t, dr, os, out⟩ := w'
  have e1 := h.os; have e2 := h.tape; have e3 := h.output
  simp only at hh e1 e2 e3 hd ⊢
  subst e1 e2 e3
  rw [hh]
  simp only [Sort.grow, World.drewN, World.mk.injEq, and_true, true_and]
  refine ⟨?_, by omega⟩
  rw [← hh]
  exact hh

theorem Ct.calls {f : FuncId} {args : Array Value} {w : World} {R : Value → List Res → Prop} (h : Ct P f args w [] R) : Calls P f args w fun e w' => ∃ v L, e = .returned v ∧ R v L ∧ ∃ q os', w' = Sort.grow (w.drewN q) os' :=
  Calls.mono h.2 fun _ _ ⟨v, L, h1, h2, h3⟩ => ⟨v, L, h1, h3, grow_of_mem h2⟩

/-- a before b -/
def lt2 (a b : Pt) : Prop := a.2 < b.2 ∨ a.2 = b.2 ∧ a.1 < b.1
instance (a b : Pt) : Decidable (lt2 a b) := by unfold lt2; exact inferInstance

theorem ltLow (x y : Pt) : ltOf lowI x y = decide (lt2 x y) := by
  unfold ltOf lowI lt2 orL orL orL cmpI
  congr 1
  apply propext
  (repeat' split) <;> omega

theorem swoLow : Sort.SWO (ltOf lowI) where
  irrefl x := by rw [ltLow]; simp [lt2]
  trans x y z h1 h2 := by simp only [ltLow, decide_eq_true_eq] at *; unfold lt2 at *; omega
  ntrans x y z h1 h2 := by simp only [ltLow, decide_eq_false_iff_not] at *; unfold lt2 at *; omega

def SortedL (qs : List Pt) : Prop := qs.Pairwise (fun a b => ¬ lt2 b a)

theorem cmpLow (blk off size : Nat) (w : World) : CmpLays P 109 #[] enc 2 lowI blk off size w := fun m os dk _ x y => by
  have e : (#[.agg (enc x).toArray, .agg (enc y).toArray] ++ #[] : Array Value) = #[vc x, vc y] := by simp
  rw [e]
  generalize sortWorldK enc 2 w blk off m dk os = w1
  have hc := Ct.calls (lower_ct x y w1)
  refine Calls.mono hc fun e w' h => ?_
  obtain ⟨v, L, h1, ⟨h2, _⟩, h3⟩ := h
  exact ⟨h1.trans (congrArg _ h2), h3⟩

theorem sort_ct (b c : Nat) (ps : List Pt) (w : World) (h : (ownV (some b) c ps).holds w) (hlen : ps.length ≤ 1099511627776) :
    Ct P 108 #[slv (some b) ps.length c, .func (.func 109) #[] #[]] w [b]
      (fun v L => v = .tuple #[] ∧ ∃ qs : List Pt, qs.Perm ps ∧ SortedL qs ∧ qs.length = ps.length ∧ L = [ownV (some b) c qs]) := by
  have hb : b < w.heap.size := by
    obtain ⟨cur, h1, _⟩ := Res.own_cells h b rfl
    exact (Array.getElem?_eq_some_iff.1 h1).1
  have hent : Enters P 108 := enters_of Try.func108 (by kernel_rfl) rfl
  have hs := AnyQ.slices_SortFunc sortV 2 aggV sizV enc (fun _ => rfl) (fun x v hv => by simp [enc] at hv; rcases hv with rfl | rfl <;> rfl) lowI swoLow 109 #[] b 0 c ps.toArray w
    (lower_ct (0, 0) (0, 0) w).1 (cmpLow b 0 _ w) (holdsK_own (fun _ => rfl) (by decide) h) hb (by simp; omega)
  have e1 : ps.toArray.size = ps.length := by simp
  have e2 : sortV_ren.f 6 = 108 := rfl
  rw [e2, e1] at hs
  refine ⟨hent, Calls.mono hs ?_⟩
  rintro e w' ⟨he, d, n, os, hp, hso, hw⟩
  subst hw
  have hsz : d.size = ps.length := by simpa using hp.1
  have hm := mem_sortWorld (enc := enc) (k := 2) (fun _ => rfl) (by decide) h d hsz n os
  refine ⟨_, _, he, hm, rfl, d.toList, ?_, ?_, by simpa using hsz, rfl⟩
  · have := hp.2.2
    have e3 : d.extract 0 ps.length = d := by rw [← hsz]; simp
    have e4 : ps.toArray.extract 0 ps.length = ps.toArray := by rw [← e1]; simp
    rw [e3, e4] at this
    simpa using this
  · rw [SortedL, List.pairwise_iff_getElem]
    intro i j hi hj hij
    have hi' : i < d.size := by simpa using hi
    have hj' : j < d.size := by simpa using hj
    have := hso i j (Nat.zero_le _) hij (by omega)
    rw [getElem!_pos d j hj', getElem!_pos d i hi', ltLow] at this
    simpa using this

end Go.Proofs.Ytjmklbkcpjmcaaa.V
