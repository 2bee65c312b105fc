/-
  The helpers on vectors of package convex: what they compute within limits.
-/
import Derived.Test.YtjmklbkcpjmcaaaH0
import Derived.Test.YtjmklbkcpjmcaaaProg
import Derived.KernelRfl
namespace Go.Proofs.Ytjmklbkcpjmcaaa.V
open Go Go.RowKit Go.Proofs.Ytjmklbkcpjmcaaa.H
set_option linter.unusedVariables false
set_option linter.unusedSimpArgs false

noncomputable abbrev P : Program := Try.prog
abbrev int (n : Int) : Value := .int .i64 n
abbrev vec (a b : Int) : Value := .agg #[.int .i64 a, .int .i64 b]

theorem aggV (w : World) : (isAgg 52).run P w = .ok true w := by kernel_rfl
theorem sizV (w : World) : (sizeOf 52).run P w = .ok 2 w := by kernel_rfl
theorem zerV (w : World) : (zeroValue 52).run P w = .ok (vec 0 0) w := by kernel_rfl
theorem aggI (w : World) : (isAgg 3).run P w = .ok false w := by kernel_rfl
theorem sizI (w : World) : (sizeOf 3).run P w = .ok 1 w := by kernel_rfl
theorem zerI (w : World) : (zeroValue 3).run P w = .ok (int 0) w := by kernel_rfl
theorem aggB (w : World) : (isAgg 4).run P w = .ok false w := by kernel_rfl
theorem sizB (w : World) : (sizeOf 4).run P w = .ok 1 w := by kernel_rfl
theorem zerB (w : World) : (zeroValue 4).run P w = .ok (.bool false) w := by kernel_rfl
theorem fldV0 (w : World) (a : Addr) : (Instr.fieldAt 52 (.pointer (some a)) 0).run P w = .ok (.pointer (some (a.add 0))) w := by kernel_rfl
theorem fldV1 (w : World) (a : Addr) : (Instr.fieldAt 52 (.pointer (some a)) 1).run P w = .ok (.pointer (some (a.add 1))) w := by kernel_rfl
theorem bldV (a b : Int) (w : World) : (Instr.build 52 #[(0, int a), (1, int b)]).run P w = .ok (vec a b) w := by kernel_rfl
theorem bld0 (w : World) : (Instr.build 52 #[]).run P w = .ok (vec 0 0) w := by kernel_rfl
theorem slV : P.underlying 22 = some (.slice 52) := by kernel_rfl
theorem agg_api_Vec (w : World) : (isAgg 22).run P w = .ok false w := by kernel_rfl
theorem siz_api_Vec (w : World) : (sizeOf 22).run P w = .ok 1 w := by kernel_rfl
theorem mix : P.follows .mixedOrders = true := by kernel_rfl
theorem zeros {ops : Array Oper} (h : (ops.toList.all fun o => match o.op with | .alloc t => [(52, vec 0 0), (3, int 0), (4, .bool false)].any (fun p => Nat.beq p.1 t) | _ => true) = true) : zerosOk P ops :=
  zerosOk_of [(52, vec 0 0), (3, int 0), (4, .bool false)] (fun p hp w => by
    simp only [List.mem_cons, List.mem_nil_iff, or_false] at hp
    rcases hp with rfl | rfl | rfl
    · exact zerV w
    · exact zerI w
    · exact zerB w) h

theorem mul_bd {a b N M : Int} (ha : -N ≤ a ∧ a ≤ N) (hb : -M ≤ b ∧ b ≤ M) : -(N * M) ≤ a * b ∧ a * b ≤ N * M := by
  have h1 : 0 ≤ (N - a) * (M - b) := Int.mul_nonneg (by omega) (by omega)
  have h2 : 0 ≤ (N + a) * (M + b) := Int.mul_nonneg (by omega) (by omega)
  have h3 : 0 ≤ (N - a) * (M + b) := Int.mul_nonneg (by omega) (by omega)
  have h4 : 0 ≤ (N + a) * (M - b) := Int.mul_nonneg (by omega) (by omega)
  simp only [Int.sub_mul, Int.mul_sub, Int.add_mul, Int.mul_add] at h1 h2 h3 h4
  omega

/-- a number of at most so many -/
def Bd (N a : Int) : Prop := -N ≤ a ∧ a ≤ N
/-- both coordinates -/
def Bd2 (N : Int) (a b : Int) : Prop := Bd N a ∧ Bd N b

theorem minus_ct (a b c d : Int) (w : World) (h1 : Bd2 1099511627776 a b) (h2 : Bd2 1099511627776 c d) :
    Ct P 94 #[vec a b, vec c d] w [] (fun v L => v = vec (a - c) (b - d) ∧ L = []) := by
  obtain ⟨⟨_, _⟩, ⟨_, _⟩⟩ := h1
  obtain ⟨⟨_, _⟩, ⟨_, _⟩⟩ := h2
  refine Ct.of_body (rs := [.cell 4 52]) (N := 16) (L := []) Try.func94 rfl rfl rfl (by kernel_rfl) rfl (Mem.refl w) ?_
  refine HW.seq (HW.region [(0, .ef), (1, .ef), (2, .al)] rfl rfl ?_)
  refine Plan.boxA rfl rfl rfl fun b2 => ?_
  refine Plan.boxA rfl rfl rfl fun b3 => ?_
  refine Plan.alloc rfl zerV fun b4 => ?_
  refine Plan.done ?_
  refine HW.seq (HW.region [(0, .st), (1, .st), (2, .st), (3, .st), (4, .st), (5, .st), (6, .st), (7, .st), (8, .st), (9, .st), (10, .st), (11, .ef)] rfl rfl ?_)
  refine Plan.fieldAddr rfl rfl fldV0 rfl ?_
  refine Plan.load (v := .int _ _) rfl rfl aggI rfl (Sees.one 2 rfl rfl) ?_
  refine Plan.fieldAddr rfl rfl fldV0 rfl ?_
  refine Plan.load (v := .int _ _) rfl rfl aggI rfl (Sees.one 1 rfl rfl) ?_
  refine Plan.arithI rfl rfl rfl rfl rfl (by omega) ?_
  refine Plan.fieldAddr rfl rfl fldV1 rfl ?_
  refine Plan.load (v := .int _ _) rfl rfl aggI rfl (Sees.one 2 rfl rfl) ?_
  refine Plan.fieldAddr rfl rfl fldV1 rfl ?_
  refine Plan.load (v := .int _ _) rfl rfl aggI rfl (Sees.one 1 rfl rfl) ?_
  refine Plan.arithI rfl rfl rfl rfl rfl (by omega) ?_
  refine Plan.build rfl rfl rfl (bldV _ _) ?_
  refine Plan.storeA 0 rfl rfl hDn sizV rfl rfl rfl rfl rfl rfl ?_
  refine Plan.done ?_
  exact HW.ret ⟨rfl, _, [], .cell rfl (own_loadAgg 0 rfl aggV sizV rfl) .nil, List.nil_sublist _, rfl, rfl⟩

theorem plus_ct (a b c d : Int) (w : World) (h1 : Bd2 1099511627776 a b) (h2 : Bd2 1099511627776 c d) :
    Ct P 69 #[vec a b, vec c d] w [] (fun v L => v = vec (a + c) (b + d) ∧ L = []) := by
  obtain ⟨⟨_, _⟩, ⟨_, _⟩⟩ := h1
  obtain ⟨⟨_, _⟩, ⟨_, _⟩⟩ := h2
  refine Ct.of_body (rs := [.cell 4 52]) (N := 16) (L := []) Try.func69 rfl rfl rfl (by kernel_rfl) rfl (Mem.refl w) ?_
  refine HW.seq (HW.region [(0, .ef), (1, .ef), (2, .al)] rfl rfl ?_)
  refine Plan.boxA rfl rfl rfl fun b2 => ?_
  refine Plan.boxA rfl rfl rfl fun b3 => ?_
  refine Plan.alloc rfl zerV fun b4 => ?_
  refine Plan.done ?_
  refine HW.seq (HW.region [(0, .st), (1, .st), (2, .st), (3, .st), (4, .st), (5, .st), (6, .st), (7, .st), (8, .st), (9, .st), (10, .st), (11, .ef)] rfl rfl ?_)
  refine Plan.fieldAddr rfl rfl fldV0 rfl ?_
  refine Plan.load (v := .int _ _) rfl rfl aggI rfl (Sees.one 2 rfl rfl) ?_
  refine Plan.fieldAddr rfl rfl fldV0 rfl ?_
  refine Plan.load (v := .int _ _) rfl rfl aggI rfl (Sees.one 1 rfl rfl) ?_
  refine Plan.arithI rfl rfl rfl rfl rfl (by omega) ?_
  refine Plan.fieldAddr rfl rfl fldV1 rfl ?_
  refine Plan.load (v := .int _ _) rfl rfl aggI rfl (Sees.one 2 rfl rfl) ?_
  refine Plan.fieldAddr rfl rfl fldV1 rfl ?_
  refine Plan.load (v := .int _ _) rfl rfl aggI rfl (Sees.one 1 rfl rfl) ?_
  refine Plan.arithI rfl rfl rfl rfl rfl (by omega) ?_
  refine Plan.build rfl rfl rfl (bldV _ _) ?_
  refine Plan.storeA 0 rfl rfl hDn sizV rfl rfl rfl rfl rfl rfl ?_
  refine Plan.done ?_
  exact HW.ret ⟨rfl, _, [], .cell rfl (own_loadAgg 0 rfl aggV sizV rfl) .nil, List.nil_sublist _, rfl, rfl⟩

def crossI (a b c d : Int) : Int := a * d - b * c
def dotI (a b c d : Int) : Int := a * c + b * d

theorem cross_ct (a b c d : Int) (w : World) (h1 : Bd2 1073741824 a b) (h2 : Bd2 1073741824 c d) :
    Ct P 100 #[vec a b, vec c d] w [] (fun v L => v = int (crossI a b c d) ∧ L = []) := by
  have e1 := mul_bd h1.1 h2.2
  have e2 := mul_bd h1.2 h2.1
  refine Ct.of_body (rs := [.tmp 4]) (N := 16) (L := []) Try.func100 rfl rfl rfl (by kernel_rfl) rfl (Mem.refl w) ?_
  refine HW.seq (HW.region [(0, .ef), (1, .ef), (2, .st)] rfl rfl ?_)
  refine Plan.boxA rfl rfl rfl fun b2 => ?_
  refine Plan.boxA rfl rfl rfl fun b3 => ?_
  refine Plan.assign (v := .int _ _) rfl rfl rfl ?_
  refine Plan.done ?_
  refine HW.seq (HW.region [(0, .st), (1, .st), (2, .st), (3, .st), (4, .st), (5, .st), (6, .st), (7, .st), (8, .st), (9, .st), (10, .st), (11, .st)] rfl rfl ?_)
  refine Plan.fieldAddr rfl rfl fldV0 rfl ?_
  refine Plan.load (v := .int _ _) rfl rfl aggI rfl (Sees.one 1 rfl rfl) ?_
  refine Plan.fieldAddr rfl rfl fldV1 rfl ?_
  refine Plan.load (v := .int _ _) rfl rfl aggI rfl (Sees.one 0 rfl rfl) ?_
  refine Plan.arithI rfl rfl rfl rfl rfl (by omega) ?_
  refine Plan.fieldAddr rfl rfl fldV1 rfl ?_
  refine Plan.load (v := .int _ _) rfl rfl aggI rfl (Sees.one 1 rfl rfl) ?_
  refine Plan.fieldAddr rfl rfl fldV0 rfl ?_
  refine Plan.load (v := .int _ _) rfl rfl aggI rfl (Sees.one 0 rfl rfl) ?_
  refine Plan.arithI rfl rfl rfl rfl rfl (by omega) ?_
  refine Plan.arithI rfl rfl rfl rfl rfl (by omega) ?_
  refine Plan.assign (v := .int _ _) rfl rfl rfl ?_
  refine Plan.done ?_
  exact HW.ret ⟨rfl, _, [], .tmp rfl .nil, List.nil_sublist _, rfl, rfl⟩

theorem dot_ct (a b c d : Int) (w : World) (h1 : Bd2 1073741824 a b) (h2 : Bd2 1073741824 c d) :
    Ct P 114 #[vec a b, vec c d] w [] (fun v L => v = int (dotI a b c d) ∧ L = []) := by
  have e1 := mul_bd h1.1 h2.1
  have e2 := mul_bd h1.2 h2.2
  refine Ct.of_body (rs := [.tmp 4]) (N := 16) (L := []) Try.func114 rfl rfl rfl (by kernel_rfl) rfl (Mem.refl w) ?_
  refine HW.seq (HW.region [(0, .ef), (1, .ef), (2, .st)] rfl rfl ?_)
  refine Plan.boxA rfl rfl rfl fun b2 => ?_
  refine Plan.boxA rfl rfl rfl fun b3 => ?_
  refine Plan.assign (v := .int _ _) rfl rfl rfl ?_
  refine Plan.done ?_
  refine HW.seq (HW.region [(0, .st), (1, .st), (2, .st), (3, .st), (4, .st), (5, .st), (6, .st), (7, .st), (8, .st), (9, .st), (10, .st), (11, .st)] rfl rfl ?_)
  refine Plan.fieldAddr rfl rfl fldV0 rfl ?_
  refine Plan.load (v := .int _ _) rfl rfl aggI rfl (Sees.one 1 rfl rfl) ?_
  refine Plan.fieldAddr rfl rfl fldV0 rfl ?_
  refine Plan.load (v := .int _ _) rfl rfl aggI rfl (Sees.one 0 rfl rfl) ?_
  refine Plan.arithI rfl rfl rfl rfl rfl (by omega) ?_
  refine Plan.fieldAddr rfl rfl fldV1 rfl ?_
  refine Plan.load (v := .int _ _) rfl rfl aggI rfl (Sees.one 1 rfl rfl) ?_
  refine Plan.fieldAddr rfl rfl fldV1 rfl ?_
  refine Plan.load (v := .int _ _) rfl rfl aggI rfl (Sees.one 0 rfl rfl) ?_
  refine Plan.arithI rfl rfl rfl rfl rfl (by omega) ?_
  refine Plan.arithI rfl rfl rfl rfl rfl (by omega) ?_
  refine Plan.assign (v := .int _ _) rfl rfl rfl ?_
  refine Plan.done ?_
  exact HW.ret ⟨rfl, _, [], .tmp rfl .nil, List.nil_sublist _, rfl, rfl⟩

def turnI (a b c d e f : Int) : Int := crossI (c - a) (d - b) (e - a) (f - b)

theorem turn_ct (a b c d e f : Int) (w : World) (h1 : Bd2 536870912 a b) (h2 : Bd2 536870912 c d) (h3 : Bd2 536870912 e f) :
    Ct P 112 #[vec a b, vec c d, vec e f] w [] (fun v L => v = int (turnI a b c d e f) ∧ L = []) := by
  obtain ⟨⟨_, _⟩, ⟨_, _⟩⟩ := h1
  obtain ⟨⟨_, _⟩, ⟨_, _⟩⟩ := h2
  obtain ⟨⟨_, _⟩, ⟨_, _⟩⟩ := h3
  refine Ct.of_body (rs := [.tmp 6]) (N := 14) (L := []) Try.func112 rfl rfl rfl (by kernel_rfl) rfl (Mem.refl w) ?_
  refine HW.seq (HW.region [(0, .ef), (1, .ef), (2, .ef), (3, .st)] rfl rfl ?_)
  refine Plan.boxA rfl rfl rfl fun b3 => ?_
  refine Plan.boxA rfl rfl rfl fun b4 => ?_
  refine Plan.boxA rfl rfl rfl fun b5 => ?_
  refine Plan.assign (v := .int _ _) rfl rfl rfl ?_
  refine Plan.done ?_
  refine HW.seq (HW.region_any [] [(0, .st), (1, .st), (3, .st), (4, .st), (2, .ef), (5, .ef), (6, .ef), (7, .st)] mix (by kernel_rfl) (fun _ _ _ _ _ h => h) (zeros rfl) ?_)
  refine Plan.loadAll 1 rfl rfl aggV sizV rfl rfl rfl ?_
  refine Plan.loadAll 2 rfl rfl aggV sizV rfl rfl rfl ?_
  refine Plan.loadAll 0 rfl rfl aggV sizV rfl rfl rfl ?_
  refine Plan.loadAll 2 rfl rfl aggV sizV rfl rfl rfl ?_
  refine Plan.callF [] 0 rfl rfl rfl (.inl rfl) (by simp) (fun w hm => minus_ct _ _ _ _ _ ⟨⟨by omega, by omega⟩, ⟨by omega, by omega⟩⟩ ⟨⟨by omega, by omega⟩, ⟨by omega, by omega⟩⟩) ?_   -- tinplate/convex.minus
  rintro v Ln ⟨rfl, rfl⟩
  refine Plan.callF [] 0 rfl rfl rfl (.inl rfl) (by simp) (fun w hm => minus_ct _ _ _ _ _ ⟨⟨by omega, by omega⟩, ⟨by omega, by omega⟩⟩ ⟨⟨by omega, by omega⟩, ⟨by omega, by omega⟩⟩) ?_   -- tinplate/convex.minus
  rintro v Ln ⟨rfl, rfl⟩
  refine Plan.callF [] 0 rfl rfl rfl (.inl rfl) (by simp) (fun w hm => cross_ct _ _ _ _ _ ⟨⟨by omega, by omega⟩, ⟨by omega, by omega⟩⟩ ⟨⟨by omega, by omega⟩, ⟨by omega, by omega⟩⟩) ?_   -- tinplate/convex.cross
  rintro v Ln ⟨rfl, rfl⟩
  refine Plan.assign (v := .int _ _) rfl rfl rfl ?_
  refine Plan.done ?_
  exact HW.ret ⟨rfl, _, [], .tmp rfl .nil, List.nil_sublist _, rfl, rfl⟩

/-- valid coordinates -/
def okB (a b : Int) : Bool := decide (-1000 ≤ a ∧ a ≤ 1000 ∧ -1000 ≤ b ∧ b ≤ 1000)

theorem valid_ct (a b : Int) (w : World) : Ct P 65 #[vec a b] w [] (fun v L => v = .bool (okB a b) ∧ L = []) := by
  have ht : ∀ {p : Bool}, p = okB a b → (Value.bool p = .bool (okB a b)) := fun h => by rw [h]
  refine Ct.of_body (rs := [.tmp 2]) (N := 21) (L := []) Try.func65 rfl rfl rfl (by kernel_rfl) rfl (Mem.refl w) ?_
  refine HW.seq (HW.region [(0, .ef), (1, .st)] rfl rfl ?_)
  refine Plan.boxA rfl rfl rfl fun b1 => ?_
  refine Plan.assign (v := .bool _) rfl rfl rfl ?_
  refine Plan.done ?_
  refine HW.seq (HW.region [(0, .st), (1, .st), (2, .st), (3, .st), (4, .st), (5, .st), (6, .st), (7, .st), (8, .st), (9, .st), (10, .st), (11, .st), (12, .st), (13, .st), (14, .st), (15, .st), (16, .st), (17, .st), (18, .st)] rfl rfl ?_)
  refine Plan.fieldAddr rfl rfl fldV0 rfl ?_
  refine Plan.load (v := .int _ _) rfl rfl aggI rfl (Sees.one 0 rfl rfl) ?_
  refine Plan.cmp2 rfl rfl rfl rfl rfl (fun h5 => ?_) (fun h5 => ?_)
  · replace h5 := of_decide_eq_true h5
    refine Plan.move (v := .bool _) rfl rfl rfl ?_
    refine Plan.fieldAddr rfl rfl fldV0 rfl ?_
    refine Plan.load (v := .int _ _) rfl rfl aggI rfl (Sees.one 0 rfl rfl) ?_
    refine Plan.cmp2 rfl rfl rfl rfl rfl (fun h9 => ?_) (fun h9 => ?_)
    · replace h9 := of_decide_eq_true h9
      refine Plan.pick (v := .bool _) rfl rfl rfl rfl ?_
      refine Plan.move (v := .bool _) rfl rfl rfl ?_
      refine Plan.fieldAddr rfl rfl fldV1 rfl ?_
      refine Plan.load (v := .int _ _) rfl rfl aggI rfl (Sees.one 0 rfl rfl) ?_
      refine Plan.cmp2 rfl rfl rfl rfl rfl (fun h14 => ?_) (fun h14 => ?_)
      · replace h14 := of_decide_eq_true h14
        refine Plan.pick (v := .bool _) rfl rfl rfl rfl ?_
        refine Plan.move (v := .bool _) rfl rfl rfl ?_
        refine Plan.fieldAddr rfl rfl fldV1 rfl ?_
        refine Plan.load (v := .int _ _) rfl rfl aggI rfl (Sees.one 0 rfl rfl) ?_
        refine Plan.cmp2 rfl rfl rfl rfl rfl (fun h19 => ?_) (fun h19 => ?_)
        · replace h19 := of_decide_eq_true h19
          refine Plan.pick (v := .bool _) rfl rfl rfl rfl ?_
          refine Plan.assign (v := .bool _) rfl rfl rfl ?_
          refine Plan.done ?_
          exact HW.ret ⟨rfl, _, [], .tmp rfl .nil, List.nil_sublist _, ht (by simp [okB]; omega), rfl⟩
        · replace h19 := of_decide_eq_false h19
          refine Plan.pick (v := .bool _) rfl rfl rfl rfl ?_
          refine Plan.assign (v := .bool _) rfl rfl rfl ?_
          refine Plan.done ?_
          exact HW.ret ⟨rfl, _, [], .tmp rfl .nil, List.nil_sublist _, ht (by simp [okB]; omega), rfl⟩
      · replace h14 := of_decide_eq_false h14
        refine Plan.pick (v := .bool _) rfl rfl rfl rfl ?_
        refine Plan.move (v := .bool _) rfl rfl rfl ?_
        refine Plan.no rfl rfl ?_
        refine Plan.no rfl rfl ?_
        refine Plan.no rfl rfl ?_
        refine Plan.pick (v := .bool _) rfl rfl rfl rfl ?_
        refine Plan.assign (v := .bool _) rfl rfl rfl ?_
        refine Plan.done ?_
        exact HW.ret ⟨rfl, _, [], .tmp rfl .nil, List.nil_sublist _, ht (by simp [okB]; omega), rfl⟩
    · replace h9 := of_decide_eq_false h9
      refine Plan.pick (v := .bool _) rfl rfl rfl rfl ?_
      refine Plan.move (v := .bool _) rfl rfl rfl ?_
      refine Plan.no rfl rfl ?_
      refine Plan.no rfl rfl ?_
      refine Plan.no rfl rfl ?_
      refine Plan.pick (v := .bool _) rfl rfl rfl rfl ?_
      refine Plan.move (v := .bool _) rfl rfl rfl ?_
      refine Plan.no rfl rfl ?_
      refine Plan.no rfl rfl ?_
      refine Plan.no rfl rfl ?_
      refine Plan.pick (v := .bool _) rfl rfl rfl rfl ?_
      refine Plan.assign (v := .bool _) rfl rfl rfl ?_
      refine Plan.done ?_
      exact HW.ret ⟨rfl, _, [], .tmp rfl .nil, List.nil_sublist _, ht (by simp [okB]; omega), rfl⟩
  · replace h5 := of_decide_eq_false h5
    refine Plan.move (v := .bool _) rfl rfl rfl ?_
    refine Plan.no rfl rfl ?_
    refine Plan.no rfl rfl ?_
    refine Plan.no rfl rfl ?_
    refine Plan.pick (v := .bool _) rfl rfl rfl rfl ?_
    refine Plan.move (v := .bool _) rfl rfl rfl ?_
    refine Plan.no rfl rfl ?_
    refine Plan.no rfl rfl ?_
    refine Plan.no rfl rfl ?_
    refine Plan.pick (v := .bool _) rfl rfl rfl rfl ?_
    refine Plan.move (v := .bool _) rfl rfl rfl ?_
    refine Plan.no rfl rfl ?_
    refine Plan.no rfl rfl ?_
    refine Plan.no rfl rfl ?_
    refine Plan.pick (v := .bool _) rfl rfl rfl rfl ?_
    refine Plan.assign (v := .bool _) rfl rfl rfl ?_
    refine Plan.done ?_
    exact HW.ret ⟨rfl, _, [], .tmp rfl .nil, List.nil_sublist _, ht (by simp [okB]; omega), rfl⟩

end Go.Proofs.Ytjmklbkcpjmcaaa.V
