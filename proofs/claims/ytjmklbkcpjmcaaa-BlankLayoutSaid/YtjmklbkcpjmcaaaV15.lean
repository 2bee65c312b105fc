/-
  few, copied, same (package tinplatelaw04).
-/
import Derived.Test.YtjmklbkcpjmcaaaV13
namespace Go.Proofs.Ytjmklbkcpjmcaaa.V
open Go Go.RowKit Go.Proofs.Ytjmklbkcpjmcaaa.H
set_option linter.unusedVariables false
set_option linter.unusedSimpArgs false

theorem same_ct (A1 A2 : Option Addr) (ps qs : List Pt) (n1 c1 n2 c2 : Nat) (w : World) (hp : Rd enc 2 w A1 ps) (hq : Rd enc 2 w A2 qs) (hn1 : n1 = ps.length) (hn2 : n2 = qs.length) (hlen : ps.length ≤ 1099511627776) (hlen2 : qs.length ≤ 1099511627776) :
    Ct P 28 #[.slice A1 n1 c1, .slice A2 n2 c2] w [] (fun v L => v = .bool (decide (ps = qs)) ∧ L = []) := by
  subst hn1 hn2
  refine Ct.of_body (rs := [.tmp 4]) (N := 26) (L := []) Try.func28 rfl rfl rfl (by kernel_rfl) rfl (Mem.refl w) ?_
  refine HW.seq (HW.region [(0, .st)] rfl rfl ?_)
  refine Plan.assign (v := .bool _) rfl rfl rfl ?_
  refine Plan.done ?_
  refine HW.seq ?_
  refine HW.seq (HW.region [(0, .st), (1, .st), (2, .st), (3, .st), (4, .st)] rfl rfl ?_)
  refine Plan.move (v := .slice _ _ _) rfl rfl rfl ?_
  refine Plan.len rfl rfl slV rfl ?_
  refine Plan.move (v := .slice _ _ _) rfl rfl rfl ?_
  refine Plan.len rfl rfl slV rfl ?_
  refine Plan.cmp2 rfl rfl rfl rfl rfl (fun h10 => ?_) (fun h10 => ?_)
  · replace h10 := ne_of_t h10
    refine Plan.done ?_
    refine HW.cond_true rfl ?_
    refine HW.seq (HW.region [(0, .st)] rfl rfl ?_)
    refine Plan.assign (v := .bool _) rfl rfl rfl ?_
    refine Plan.done ?_
    exact HW.ret ⟨rfl, _, [], .tmp rfl .nil, List.nil_sublist _, (by rw [decide_eq_false (fun h => h10 (by rw [h]))]; rfl), rfl⟩
  · replace h10 := eq_of_f h10
    have hl : ps.length = qs.length := by omega
    refine Plan.done ?_
    refine HW.cond_false rfl ?_
    refine HW.skip ?_
    refine HW.seq ?_
    refine HW.seq (HW.region [(0, .st)] rfl rfl ?_)
    refine Plan.assign (v := .int _ _) rfl rfl rfl ?_
    refine Plan.done ?_
    refine HW.block ?_
    refine HW.loopC (G := Nat) [4, 5, 11, 12, 13, 14, 15, 16, 17, 18, 19, 20, 21, 22, 23, 24, 25] (fun g => [(5, int g)]) (fun g => g ≤ ps.length ∧ ps.take g = qs.take g) (fun g => ps.length - g) (0) ⟨rfl, trivial⟩ (⟨Nat.zero_le _, rfl⟩) (fun g F hok => ?_)
    obtain ⟨hk, hpre⟩ := hok
    refine HW.seq ?_
    refine HW.seq (HW.region [(0, .st), (1, .st), (2, .st), (3, .st)] rfl rfl ?_)
    refine Plan.move (v := .int _ _) rfl rfl rfl ?_
    refine Plan.move (v := .slice _ _ _) rfl rfl rfl ?_
    refine Plan.len rfl rfl slV rfl ?_
    refine Plan.cmp2 rfl rfl rfl rfl rfl (fun h14 => ?_) (fun h14 => ?_)
    · replace h14 := of_decide_eq_true h14
      have hlt : g < ps.length := by omega
      have hlt2 : g < qs.length := by omega
      obtain ⟨ad, rfl, hl1⟩ := hp g hlt
      obtain ⟨ad2, rfl, hl2⟩ := hq g hlt2
      refine Plan.done ?_
      refine HW.cond_true rfl ?_
      refine HW.skip ?_
      refine HW.seq ?_
      refine HW.block ?_
      refine HW.seq (HW.region_any [] [(0, .st), (1, .st), (2, .st), (3, .st), (4, .st), (5, .st), (6, .st), (7, .st), (8, .st)] mix (by kernel_rfl) (fun _ _ _ _ _ h => h) (zeros rfl) ?_)
      refine Plan.move (v := .slice _ _ _) rfl rfl rfl ?_
      refine Plan.move (v := .int _ _) rfl rfl rfl ?_
      refine Plan.indexN (g) rfl rfl slV sizV rfl rfl rfl rfl (hlt) ?_
      refine Plan.loadAgg rfl rfl aggV sizV rfl (Sees.old hl1 (by simp)) rfl ?_
      refine Plan.move (v := .slice _ _ _) rfl rfl rfl ?_
      refine Plan.move (v := .int _ _) rfl rfl rfl ?_
      refine Plan.indexN (g) rfl rfl slV sizV rfl rfl rfl rfl (hlt2) ?_
      refine Plan.loadAgg rfl rfl aggV sizV rfl (Sees.old hl2 (by simp)) rfl ?_
      refine Plan.neV ps[g] qs[g] rfl rfl rfl rfl rfl (fun h25 => ?_) (fun h25 => ?_)
      · skip
        refine Plan.done ?_
        refine HW.cond_true rfl ?_
        refine HW.seq (HW.region [(0, .st)] rfl rfl ?_)
        refine Plan.assign (v := .bool _) rfl rfl rfl ?_
        refine Plan.done ?_
        exact HW.ret ⟨rfl, _, [], .tmp rfl .nil, List.nil_sublist _, (by rw [decide_eq_false (fun h => h25 (by subst h; rfl))]; rfl), rfl⟩
      · skip
        refine Plan.done ?_
        refine HW.cond_false rfl ?_
        refine HW.skip ?_
        refine HW.region [(0, .st), (1, .st), (2, .st)] rfl rfl ?_
        refine Plan.move (v := .int _ _) rfl rfl rfl ?_
        refine Plan.arithI rfl rfl rfl rfl rfl (by omega) ?_
        refine Plan.assign (v := .int _ _) rfl rfl rfl ?_
        refine Plan.done ?_
        exact ⟨g + 1, by simp only; omega, ⟨hlt, by rw [List.take_add_one, List.take_add_one, hpre, List.getElem?_eq_getElem hlt, List.getElem?_eq_getElem hlt2, h25]⟩, rfl, Ent.sub (.refl _), (by repeat (first | exact Agree.havoc _ _ _ | refine Agree.updN ?_ | refine Agree.upd rfl ?_ | refine Agree.updL rfl ?_ | refine Agree.havoc2 rfl ?_)), ⟨rfl, trivial⟩⟩
    · replace h14 := of_decide_eq_false h14
      refine Plan.done ?_
      refine HW.cond_false rfl ?_
      refine HW.exit ?_
      refine HW.seq (HW.region [(0, .st)] rfl rfl ?_)
      refine Plan.assign (v := .bool _) rfl rfl rfl ?_
      refine Plan.done ?_
      exact HW.ret ⟨rfl, _, [], .tmp rfl .nil, List.nil_sublist _, (by rw [List.take_of_length_le (by omega), List.take_of_length_le (by omega)] at hpre; rw [decide_eq_true hpre]; rfl), rfl⟩

theorem run_appendNil {st ety e : TypeId} {b n c k : Nat} {w : World} (ht : P.underlying st = some (.slice e)) (hi : ∃ ti, P.info? e = some ti) (h : n ≤ c) :
    (Builtin.append_ #[st, st] ety #[.slice (some ⟨b, 0, none⟩) n c, .slice none 0 k]).run P w = .ok (.slice (some ⟨b, 0, none⟩) n c) w := by
  obtain ⟨ti, hi⟩ := hi
  simp [Builtin.append_, run_underlying ht, sizeOf, typeInfo, hi, Builtin.lenOf, Builtin.firstCells, h, storeCells]

theorem Plan.appendNil {J : Jd} {ops : Array Oper} {dest : Option (List Nat)} {Q : Post} {i : Nat} {rest : List (Nat × Kind)} {E : Env} {ds : List Deferred} {L : List Res} {d : Option Nat} {ty : TypeId} {pos : String} {aft : Array Edge} {g : Option (Nat × Bool)}
    {st e : TypeId} {x y : Operand} {b n c k' : Nat} (hP : J.P = P) (ho : ops[i]? = some ⟨d, .call ⟨.builtin .append, #[x, y], #[st, st]⟩, ty, pos, aft, g⟩) (hg : wantE ops ⟨d, .call ⟨.builtin .append, #[x, y], #[st, st]⟩, ty, pos, aft, g⟩ E = true)
    (ht : P.underlying st = some (.slice e)) (hi : ∃ ti, P.info? e = some ti) (hx : ev E x = .slice (some ⟨b, 0, none⟩) n c) (hy : ev E y = .slice none 0 k') (h : n ≤ c)
    (k : Plan J ops dest Q rest (upd E d (.slice (some ⟨b, 0, none⟩) n c)) ds L) : Plan J ops dest Q ((i, .ef) :: rest) E ds L :=
  Plan.ef ho hg (by intro c h; cases h) fun Rf w hw => by
    have hrun : (execOp (ev E) ⟨d, .call ⟨.builtin .append, #[x, y], #[st, st]⟩, ty, pos, aft, g⟩).run J.P w = .ok (.value (.slice (some ⟨b, 0, none⟩) n c)) w := by
      rw [hP]
      unfold execOp
      simp [resolve, hx, hy, invoke, builtin, run_appendNil ht hi h, Result.andThen]
    rw [hrun]
    exact ⟨L, hw, fun D _ _ Rf => Sub.refl _ _, k⟩

end Go.Proofs.Ytjmklbkcpjmcaaa.V
