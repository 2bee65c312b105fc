/-
  Vectors that are equal or not; slices.Equal, slices.Reverse, slices.Compact at vectors; hull; Valid.
-/
import Derived.Test.YtjmklbkcpjmcaaaV3
import Derived.Test.YtjmklbkcpjmcaaaH5
namespace Go.Proofs.Ytjmklbkcpjmcaaa.V
open Go Go.RowKit Go.Proofs.Ytjmklbkcpjmcaaa.H
set_option linter.unusedVariables false
set_option linter.unusedSimpArgs false

theorem undV : P.underlying 52 = some (.struct (P.fieldsOf 52)) := by kernel_rfl
theorem fldsV : (P.fieldsOf 52).toList.map (fun f => (f.name == "_", f.type, f.offset)) = [(false, 3, 0), (false, 3, 1)] := by kernel_rfl
theorem undI : P.underlying 3 = some (.int .i64) := by kernel_rfl
theorem eqVec (a b c d : Int) (w : World) : (Op.equalIn 10000 52 (vec a b) (vec c d)).run P w = .ok (a == c && b == d) w := by
  rw [run_equalIn_struct w 9999 52 _ _ undV (by kernel_rfl)]
  have h := fldsV
  generalize (P.fieldsOf 52).toList = fs at h
  obtain ⟨f, g, rfl⟩ : ∃ f g, fs = [f, g] := by
    have hl := congrArg List.length h
    match fs, hl with
    | [f, g], _ => exact ⟨f, g, rfl⟩
  · simp only [List.map_cons, List.map_nil, List.cons.injEq, Prod.mk.injEq, and_true] at h
    obtain ⟨⟨hn, ht, ho⟩, hn2, ht2, ho2⟩ := h
    have hn : f.name ≠ "_" := by simpa using hn
    have hn2 : g.name ≠ "_" := by simpa using hn2
    have e1 : (part f.type #[int a, int b] f.offset).run P w = .ok (int a) w := by rw [ht, ho]; kernel_rfl
    have e2 : (part f.type #[int c, int d] f.offset).run P w = .ok (int c) w := by rw [ht, ho]; kernel_rfl
    have e3 : (part g.type #[int a, int b] g.offset).run P w = .ok (int b) w := by rw [ht2, ho2]; kernel_rfl
    have e4 : (part g.type #[int c, int d] g.offset).run P w = .ok (int d) w := by rw [ht2, ho2]; kernel_rfl
    have e5 : (Op.equalIn 9999 f.type (int a) (int c)).run P w = .ok (a == c) w := by rw [ht]; exact run_equalIn_int w _ _ _ _ _ _ undI
    have e6 : (Op.equalIn 9999 g.type (int b) (int d)).run P w = .ok (b == d) w := by rw [ht2]; exact run_equalIn_int w _ _ _ _ _ _ undI
    simp only [Op.eqFields, if_pos hn, if_pos hn2, Sem.run_bind, e1, e2, e5, Result.andThen_ok]
    cases h1 : (a == c)
    · simp
    · simp only [Bool.true_and]
      simp [Sem.run_bind, e3, e4, e6]
      by_cases hbd : b = d <;> simp [hbd]

section
variable {J : Jd} {ops : Array Oper} {dest : Option (List Nat)} {Q : Post} {i : Nat} {rest : List (Nat × Kind)} {E : Env} {ds : List Deferred} {L : List Res}
variable {d : Option Nat} {ty : TypeId} {pos : String} {aft : Array Edge} {g : Option (Nat × Bool)}
theorem run_eqV {op : BinOp} {x y : Operand} {p q : Pt} {w : World} {n : Bool} (hx : ev E x = vc p) (hy : ev E y = vc q) (hop : op = .eql ∧ n = decide (p = q) ∨ op = .neq ∧ n = !decide (p = q)) :
    (execOp (ev E) ⟨d, .binOp op 52 x y 52, ty, pos, aft, g⟩).run P w = .ok (.value (.bool n)) w := by
  have hg : (eqGuard op 52 x y (vc p) (vc q)).run P w = .ok () w := run_eqGuard_agg w op 52 x y _ _ (by kernel_rfl)
  have he := eqVec p.1 p.2 q.1 q.2 w
  have hb : (p.1 == q.1 && p.2 == q.2) = decide (p = q) := by
    rw [Bool.eq_iff_iff]; simp [Prod.ext_iff]
  unfold execOp
  simp only [hx, hy, Sem.run_bind, hg, Result.andThen_ok]
  rcases hop with ⟨rfl, rfl⟩ | ⟨rfl, rfl⟩
  · rw [run_eql_struct, he, hb]; rfl
  · rw [run_neq_struct, he, hb]; rfl

theorem Plan.eqV {x y : Operand} (p q : Pt) (hP : J.P = P) (ho : ops[i]? = some ⟨d, .binOp .eql 52 x y 52, ty, pos, aft, g⟩) (hg : wantE ops ⟨d, .binOp .eql 52 x y 52, ty, pos, aft, g⟩ E = true)
    (hx : ev E x = vc p) (hy : ev E y = vc q) (kt : p = q → Plan J ops dest Q rest (upd E d (.bool true)) ds L) (kf : p ≠ q → Plan J ops dest Q rest (upd E d (.bool false)) ds L) : Plan J ops dest Q ((i, .st) :: rest) E ds L :=
  Plan.st ho hg (St.of_exec (by intro c h; cases h) fun w _ => by rw [hP]; exact run_eqV hx hy (.inl ⟨rfl, rfl⟩)) (by
    by_cases h : p = q
    · rw [decide_eq_true h]; exact kt h
    · rw [decide_eq_false h]; exact kf h)

theorem Plan.neV {x y : Operand} (p q : Pt) (hP : J.P = P) (ho : ops[i]? = some ⟨d, .binOp .neq 52 x y 52, ty, pos, aft, g⟩) (hg : wantE ops ⟨d, .binOp .neq 52 x y 52, ty, pos, aft, g⟩ E = true)
    (hx : ev E x = vc p) (hy : ev E y = vc q) (kt : p ≠ q → Plan J ops dest Q rest (upd E d (.bool true)) ds L) (kf : p = q → Plan J ops dest Q rest (upd E d (.bool false)) ds L) : Plan J ops dest Q ((i, .st) :: rest) E ds L :=
  Plan.st ho hg (St.of_exec (by intro c h; cases h) fun w _ => by rw [hP]; exact run_eqV hx hy (.inr ⟨rfl, rfl⟩)) (by
    by_cases h : p = q
    · rw [decide_eq_true h]; exact kf h
    · rw [decide_eq_false h]; exact kt h)
end

theorem equal_ct (A1 A2 : Option Addr) (ps qs : List Pt) (c1 c2 : Nat) (w : World) (hp : Rd enc 2 w A1 ps) (hq : Rd enc 2 w A2 qs) (hlen : ps.length ≤ 1099511627776) (hlen2 : qs.length ≤ 1099511627776) :
    Ct P 89 #[.slice A1 ps.length c1, .slice A2 qs.length c2] w [] (fun v L => v = .bool (decide (ps = qs)) ∧ L = []) := by
  refine Ct.of_body (rs := [.tmp 4]) (N := 26) (L := []) Try.func89 rfl rfl rfl (by kernel_rfl) rfl (Mem.refl w) ?_
  refine HW.seq (HW.region [(0, .st)] rfl rfl ?_)
  refine Plan.assign (v := .bool _) rfl rfl rfl ?_
  refine Plan.done ?_
  refine HW.seq ?_
  refine HW.seq (HW.region [(0, .st), (1, .st), (2, .st), (3, .st), (4, .st)] rfl rfl ?_)
  refine Plan.move (v := .slice _ _ _) rfl rfl rfl ?_
  refine Plan.len rfl rfl slV rfl ?_
  refine Plan.move (v := .slice _ _ _) rfl rfl rfl ?_
  refine Plan.len rfl rfl slV rfl ?_
  refine Plan.cmp2 rfl rfl rfl rfl rfl (fun h10 => ?_) (fun h10 => ?_)
  · replace h10 := ne_of_t h10
    refine Plan.done ?_
    refine HW.cond_true rfl ?_
    refine HW.seq (HW.region [(0, .st)] rfl rfl ?_)
    refine Plan.assign (v := .bool _) rfl rfl rfl ?_
    refine Plan.done ?_
    exact HW.ret ⟨rfl, _, [], .tmp rfl .nil, List.nil_sublist _, (by rw [decide_eq_false (fun h => h10 (by rw [h]))]; rfl), rfl⟩
  · replace h10 := eq_of_f h10
    have hl : ps.length = qs.length := by omega
    refine Plan.done ?_
    refine HW.cond_false rfl ?_
    refine HW.skip ?_
    refine HW.seq ?_
    refine HW.seq (HW.region [(0, .st), (1, .st), (2, .st)] rfl rfl ?_)
    refine Plan.move (v := .slice _ _ _) rfl rfl rfl ?_
    refine Plan.len rfl rfl slV rfl ?_
    refine Plan.move (v := .int _ _) rfl rfl rfl ?_
    refine Plan.done ?_
    refine HW.block ?_
    refine HW.loopC (G := Nat) [4, 5, 13, 14, 15, 16, 17, 18, 19, 20, 21, 22, 23, 24, 25] (fun g => [(13, int g)]) (fun g => g ≤ ps.length ∧ ps.take g = qs.take g) (fun g => ps.length - g) (0) ⟨rfl, trivial⟩ (⟨Nat.zero_le _, rfl⟩) (fun g F hok => ?_)
    obtain ⟨hk, hpre⟩ := hok
    refine HW.seq (HW.region [(0, .st)] rfl rfl ?_)
    refine Plan.cmp2 rfl rfl rfl rfl rfl (fun h14 => ?_) (fun h14 => ?_)
    · replace h14 := of_decide_eq_true h14
      have hlt : g < ps.length := by omega
      have hlt2 : g < qs.length := by omega
      obtain ⟨ad, rfl, hl1⟩ := hp g hlt
      obtain ⟨ad2, rfl, hl2⟩ := hq g hlt2
      refine Plan.done ?_
      refine HW.seq ?_
      refine HW.cond_true rfl ?_
      refine HW.skip ?_
      refine HW.seq ?_
      refine HW.block ?_
      refine HW.seq (HW.region [(0, .st), (1, .st)] rfl rfl ?_)
      refine Plan.move (v := .int _ _) rfl rfl rfl ?_
      refine Plan.assign (v := .int _ _) rfl rfl rfl ?_
      refine Plan.done ?_
      refine HW.seq (HW.region_any [] [(0, .st), (1, .st), (2, .st), (3, .st), (4, .st), (5, .st), (6, .st), (7, .st), (8, .st)] mix (by kernel_rfl) (fun _ _ _ _ _ h => h) (zeros rfl) ?_)
      refine Plan.move (v := .slice _ _ _) rfl rfl rfl ?_
      refine Plan.move (v := .int _ _) rfl rfl rfl ?_
      refine Plan.indexN (g) rfl rfl slV sizV rfl rfl rfl rfl (hlt) ?_
      refine Plan.loadAgg rfl rfl aggV sizV rfl (Sees.old hl1 (by simp)) rfl ?_
      refine Plan.move (v := .slice _ _ _) rfl rfl rfl ?_
      refine Plan.move (v := .int _ _) rfl rfl rfl ?_
      refine Plan.indexN (g) rfl rfl slV sizV rfl rfl rfl rfl (hlt2) ?_
      refine Plan.loadAgg rfl rfl aggV sizV rfl (Sees.old hl2 (by simp)) rfl ?_
      refine Plan.neV ps[g] qs[g] rfl rfl rfl rfl rfl (fun h24 => ?_) (fun h24 => ?_)
      · skip
        refine Plan.done ?_
        refine HW.cond_true rfl ?_
        refine HW.seq (HW.region [(0, .st)] rfl rfl ?_)
        refine Plan.assign (v := .bool _) rfl rfl rfl ?_
        refine Plan.done ?_
        exact HW.ret ⟨rfl, _, [], .tmp rfl .nil, List.nil_sublist _, (by rw [decide_eq_false (fun h => h24 (by subst h; rfl))]; rfl), rfl⟩
      · skip
        refine Plan.done ?_
        refine HW.cond_false rfl ?_
        refine HW.skip ?_
        refine HW.region [(0, .st), (1, .st)] rfl rfl ?_
        refine Plan.arithI rfl rfl rfl rfl rfl (by omega) ?_
        refine Plan.move (v := .int _ _) rfl rfl rfl ?_
        refine Plan.done ?_
        exact ⟨g + 1, by simp only; omega, ⟨hlt, by rw [List.take_add_one, List.take_add_one, hpre, List.getElem?_eq_getElem hlt, List.getElem?_eq_getElem hlt2, h24]⟩, rfl, Ent.sub (.refl _), (by repeat (first | exact Agree.havoc _ _ _ | refine Agree.updN ?_ | refine Agree.upd rfl ?_ | refine Agree.updL rfl ?_ | refine Agree.havoc2 rfl ?_)), ⟨rfl, trivial⟩⟩
    · replace h14 := of_decide_eq_false h14
      refine Plan.done ?_
      refine HW.seq ?_
      refine HW.cond_false rfl ?_
      refine HW.exit ?_
      refine HW.seq (HW.region [(0, .st)] rfl rfl ?_)
      refine Plan.assign (v := .bool _) rfl rfl rfl ?_
      refine Plan.done ?_
      exact HW.ret ⟨rfl, _, [], .tmp rfl .nil, List.nil_sublist _, (by rw [List.take_of_length_le (by omega), List.take_of_length_le (by omega)] at hpre; rw [decide_eq_true hpre]; rfl), rfl⟩

theorem Mem.own {o : Option Nat} {c : Nat} {ps : List Pt} {w : World} {b : Nat} (hob : o = some b) (h : (ownV o c ps).holds w) : Mem w [b] [ownV o c ps] w := by
  subst hob
  obtain ⟨cur, h1, _⟩ := Res.own_cells h b rfl
  have hb : b < w.heap.size := (Array.getElem?_eq_some_iff.1 h1).1
  refine ⟨rfl, rfl, Nat.le_refl _, rfl, Nat.le_refl _, fun _ _ _ => rfl, ?_, ?_, List.pairwise_singleton _ _⟩
  · intro r hr; obtain rfl := List.mem_singleton.1 hr; exact h
  · intro r hr j hj
    obtain rfl := List.mem_singleton.1 hr
    obtain rfl := List.mem_singleton.1 hj
    exact ⟨hb, .inr (List.mem_singleton.2 rfl)⟩

theorem Sees.ownAt {J : Jd} {L : List Res} {o : Option Nat} {c : Nat} {xs : List Pt} (j : Nat) (hj : L[j]? = some (ownV o c xs)) (b : Nat) (hb : o = some b) (m : Nat) (hm : m < xs.length) {a : Addr} (ha : a = (⟨b, 0, none⟩ : Addr).add (m * 2)) :
    Sees J L a (enc xs[m]) := by subst ha; exact Sees.own j enc2 hj b hb m hm

theorem int_eq {a b : Int} (h : a = b) : int a = int b := by rw [h]

structure RevG where
  k : Nat
  xs : List Pt

theorem reverse_ct (b c n : Nat) (ps : List Pt) (w : World) (h : (ownV (some b) c ps).holds w) (hn : n = ps.length) (hlen : ps.length ≤ 1099511627776) :
    Ct P 113 #[slv (some b) n c] w [b] (fun v L => v = .tuple #[] ∧ L = [ownV (some b) c ps.reverse]) := by
  subst hn
  have hpos := (Res.own_cap h).1
  refine Ct.of_body (rs := []) (N := 28) (L := [ownV (some b) c ps]) Try.func113 rfl rfl rfl (by kernel_rfl) rfl (Mem.own rfl h) ?_
  refine HW.seq (HW.region [(0, .st), (1, .st), (2, .st), (3, .st), (4, .st)] rfl rfl ?_)
  refine Plan.move (v := .slice _ _ _) rfl rfl rfl ?_
  refine Plan.len rfl rfl slV rfl ?_
  refine Plan.arithI rfl rfl rfl rfl rfl (by omega) ?_
  refine Plan.assign (v := .int _ _) rfl rfl rfl ?_
  refine Plan.assign (v := .int _ _) rfl rfl rfl ?_
  refine Plan.done ?_
  refine HW.block ?_
  refine HW.loopL (G := RevG) [2, 3, 7, 8, 9, 10, 11, 12, 13, 14, 15, 16, 17, 18, 19, 20, 21, 22, 23, 24, 25, 26, 27] (fun g => [(2, int g.k), (3, int (ps.length - 1 - g.k))]) (fun g => [ownV (some b) c g.xs]) (fun g => g.k ≤ ps.length ∧ 2 * g.k ≤ ps.length + 1 ∧ g.xs.length = ps.length ∧ ∀ m, m < ps.length → g.xs[m]? = if m < g.k ∨ ps.length ≤ m + g.k then ps[ps.length - 1 - m]? else ps[m]?) (fun g => ps.length + 1 - g.k) (⟨0, ps⟩) ⟨rfl, int_eq (by simp only; omega), trivial⟩ (Ent.refl _ _) (⟨Nat.zero_le _, Nat.zero_le _, rfl, fun m hm => by rw [if_neg (show ¬ (m < 0 ∨ ps.length ≤ m + 0) by omega)]⟩) (fun g F hok => ?_)
  obtain ⟨k, xs⟩ := g
  obtain ⟨hk, hk2, hxl, hxs⟩ := hok
  simp only at hk hk2 hxl hxs
  dsimp only
  refine HW.seq ?_
  refine HW.seq (HW.region [(0, .st), (1, .st), (2, .st)] rfl rfl ?_)
  refine Plan.move (v := .int _ _) rfl rfl rfl ?_
  refine Plan.move (v := .int _ _) rfl rfl rfl ?_
  refine Plan.cmp2 rfl rfl rfl rfl rfl (fun h9 => ?_) (fun h9 => ?_)
  · replace h9 := of_decide_eq_true h9
    have hlt : 2 * k + 1 < ps.length := by omega
    have ek : ((ps.length : Int) - 1 - k) = ((ps.length - 1 - k : Nat) : Int) := by omega
    refine Plan.done ?_
    refine HW.cond_true rfl ?_
    refine HW.skip ?_
    refine HW.seq ?_
    refine HW.block ?_
    refine HW.region_any [13, 15] [(0, .st), (1, .st), (2, .st), (3, .st), (4, .st), (5, .st), (6, .st), (7, .st), (8, .st), (9, .st), (10, .st), (11, .st), (12, .st), (13, .ef), (14, .st), (15, .ef)] mix (by kernel_rfl) (fun _ _ _ _ _ h => h) (zeros rfl) ?_
    refine Plan.move (v := .slice _ _ _) rfl rfl rfl ?_
    refine Plan.move (v := .int _ _) rfl rfl rfl ?_
    refine Plan.move (v := .slice _ _ _) rfl rfl rfl ?_
    refine Plan.move (v := .int _ _) rfl rfl rfl ?_
    refine Plan.move (v := .slice _ _ _) rfl rfl rfl ?_
    refine Plan.move (v := .int _ _) rfl rfl rfl ?_
    refine Plan.indexN (ps.length - 1 - k) rfl rfl slV sizV rfl rfl rfl ek (by omega) ?_
    refine Plan.loadAgg rfl rfl aggV sizV rfl (Sees.ownAt 0 rfl b rfl (ps.length - 1 - k) (by omega) rfl) rfl ?_
    refine Plan.move (v := .slice _ _ _) rfl rfl rfl ?_
    refine Plan.move (v := .int _ _) rfl rfl rfl ?_
    refine Plan.indexN (k) rfl rfl slV sizV rfl rfl rfl rfl (by omega) ?_
    refine Plan.loadAgg rfl rfl aggV sizV rfl (Sees.ownAt 0 rfl b rfl k (by omega) rfl) rfl ?_
    refine Plan.indexN (k) rfl rfl slV sizV rfl rfl rfl rfl (by omega) ?_
    refine Plan.storeOwn (enc := enc) (sz := 2) (xs[ps.length - 1 - k]) (k) (0) rfl rfl (hDs (by decide)) sizV enc2 enc1 rfl rfl rfl rfl rfl (by omega) ?_
    refine Plan.indexN (ps.length - 1 - k) rfl rfl slV sizV rfl rfl rfl ek (by omega) ?_
    refine Plan.storeOwn (enc := enc) (sz := 2) (xs[k]) (ps.length - 1 - k) (0) rfl rfl (hDs (by decide)) sizV enc2 enc1 rfl rfl rfl rfl rfl (by simp; omega) ?_
    refine Plan.done ?_
    refine HW.region [(0, .st), (1, .st), (2, .st), (3, .st), (4, .st), (5, .st)] rfl rfl ?_
    refine Plan.move (v := .int _ _) rfl rfl rfl ?_
    refine Plan.arithI rfl rfl rfl rfl rfl (by omega) ?_
    refine Plan.move (v := .int _ _) rfl rfl rfl ?_
    refine Plan.arithI rfl rfl rfl rfl rfl (by omega) ?_
    refine Plan.assign (v := .int _ _) rfl rfl rfl ?_
    refine Plan.assign (v := .int _ _) rfl rfl rfl ?_
    refine Plan.done ?_
    exact ⟨⟨k + 1, (xs.set k xs[ps.length - 1 - k]).set (ps.length - 1 - k) xs[k]⟩, by simp only; omega, ⟨by simp only; omega, by simp only; omega, by simpa using hxl, fun m hm => by
          have h1 := hxs k (by omega)
          have h2 := hxs (ps.length - 1 - k) (by omega)
          rw [if_neg (by omega), List.getElem?_eq_getElem (by omega)] at h1
          rw [if_neg (by omega), List.getElem?_eq_getElem (by omega)] at h2
          simp only [List.getElem?_set, List.length_set]
          by_cases e1 : ps.length - 1 - k = m
          · rw [if_pos e1, if_pos (by omega), if_pos (by omega), h1]; congr 1; omega
          · rw [if_neg e1]
            by_cases e2 : k = m
            · rw [if_pos e2, if_pos (by omega), if_pos (by omega), h2]; congr 1; omega
            · rw [if_neg e2, hxs m hm]
              by_cases e3 : m < k ∨ ps.length ≤ m + k
              · rw [if_pos e3, if_pos (by omega)]
              · rw [if_neg e3, if_neg (by omega)]⟩, rfl, Ent.sub (.refl _), (by repeat (first | exact Agree.havoc _ _ _ | refine Agree.updN ?_ | refine Agree.upd rfl ?_ | refine Agree.updL rfl ?_ | refine Agree.havoc2 rfl ?_)), ⟨rfl, int_eq (by simp only; omega), trivial⟩⟩
  · replace h9 := of_decide_eq_false h9
    refine Plan.done ?_
    refine HW.cond_false rfl ?_
    refine HW.exit ?_
    exact ⟨rfl, _, [ownV (some b) c xs], .nil, .refl _, rfl, by
          have : xs = ps.reverse := by
            apply List.ext_getElem?
            intro m
            by_cases hm : m < ps.length
            · rw [hxs m hm, List.getElem?_reverse hm]
              split
              · rfl
              · congr 1; omega
            · rw [List.getElem?_eq_none (by omega), List.getElem?_eq_none (by simp; omega)]
          rw [this]⟩

end Go.Proofs.Ytjmklbkcpjmcaaa.V
