/-
  The edges of a polygon (an iterator), area, place.
-/
import Derived.Test.YtjmklbkcpjmcaaaV6
import Derived.Test.YtjmklbkcpjmcaaaH5
namespace Go.Proofs.Ytjmklbkcpjmcaaa.V
open Go Go.RowKit Go.Proofs.Ytjmklbkcpjmcaaa.H
set_option linter.unusedVariables false
set_option linter.unusedSimpArgs false

def nth (ps : List Pt) (k : Nat) : Pt := ps.getD k (0, 0)
/-- the vertex after number k -/
def nx (ps : List Pt) (k : Nat) : Pt := nth ps ((k + 1) % ps.length)
theorem nth_get {ps : List Pt} {k : Nat} (h : k < ps.length) : nth ps k = ps[k] := by simp [nth, h]
theorem nth_mem {ps : List Pt} {k : Nat} (h : k < ps.length) : nth ps k ∈ ps := by rw [nth_get h]; exact List.getElem_mem h
theorem nx_mem {ps : List Pt} {k : Nat} (h : k < ps.length) : nx ps k ∈ ps := nth_mem (Nat.mod_lt _ (by omega))

abbrev edgeA (ps : List Pt) (k : Nat) : List Value := [vc (nth ps k), vc (nx ps k)]

theorem edges1_seq (bx : Nat) (A : Option Addr) (ps : List Pt) (n c : Nat) (w : World) (X : List Nat) (hbx : w.heap[bx]? = some (.cells #[.slice A n c] 22 (0, 0))) (hbX : bx ∉ X) (hp : Rd enc 2 w A ps)
    (hn : n = ps.length) (hAX : 0 < ps.length → ∀ a, A = some a → a.block ∉ X) (hlen : ps.length ≤ 1000000000000) : SeqC P 115 #[.pointer (some ⟨bx, 0, none⟩)] ps.length (edgeA ps) w X := by
  subst hn
  intro G l Y ok okX g0 hfoot hm h0 hy
  show Ct P 115 #[.func (.yield l) #[] #[], .pointer (some ⟨bx, 0, none⟩)] w X _
  have hbox : Lies w ⟨bx, 0, none⟩ [.slice A ps.length c] := fun j u hu => by
    rw [Addr.add_lit, cell_of_heap hbx]
    cases j with
    | zero => simpa using hu
    | succ j => cases hu
  refine Ct.of_body (rs := []) (N := 25) (L := [Y g0]) Try.func115 rfl rfl rfl (by kernel_rfl) rfl hm ?_
  refine HW.seq (HW.region [(0, .st), (1, .st), (2, .st)] rfl rfl ?_)
  refine Plan.load (v := .slice _ _ _) rfl rfl agg_api_Vec rfl (Sees.old hbox hbX) ?_
  refine Plan.len rfl rfl slV rfl ?_
  refine Plan.move (v := .int _ _) rfl rfl rfl ?_
  refine Plan.done ?_
  refine HW.block ?_
  refine HW.loopL (G := Nat × G) [3, 4, 7, 8, 9, 10, 11, 12, 13, 14, 15, 16, 17, 18, 19, 20, 21, 22, 23, 24] (fun g => [(7, int g.1)]) (fun g => [Y g.2]) (fun g => g.1 ≤ ps.length ∧ ok g.1 g.2) (fun g => ps.length - g.1) ((0, g0)) ⟨rfl, trivial⟩ (Ent.refl _ _) (⟨Nat.zero_le _, h0⟩) (fun g F hok => ?_)
  obtain ⟨k, g⟩ := g
  obtain ⟨hk, hok⟩ := hok
  simp only at hk hok
  dsimp only
  refine HW.seq (HW.region [(0, .st)] rfl rfl ?_)
  refine Plan.cmp2 rfl rfl rfl rfl rfl (fun h8 => ?_) (fun h8 => ?_)
  · replace h8 := of_decide_eq_true h8
    have hlt : k < ps.length := by omega
    have hlt2 : (k + 1) % ps.length < ps.length := Nat.mod_lt _ (by omega)
    obtain ⟨ad, rfl, hl1⟩ := hp k hlt
    obtain ⟨ad2, e2, hl2⟩ := hp ((k + 1) % ps.length) hlt2
    obtain rfl : ad = ad2 := by injection e2
    have hbk : ∀ j, (ad.add j).block ∉ X := fun j => by
      have hb : (ad.add j).block = ad.block := by unfold Addr.add; split <;> rfl
      rw [hb]; exact hAX (by omega) ad rfl
    have hmod : Int.tmod ((k : Int) + 1) (ps.length : Int) = (((k + 1) % ps.length : Nat) : Int) := by
      rw [Int.tmod_eq_emod_of_nonneg (by omega), Int.natCast_emod, Int.natCast_add]; rfl
    refine Plan.done ?_
    refine HW.seq ?_
    refine HW.cond_true rfl ?_
    refine HW.skip ?_
    refine HW.seq ?_
    refine HW.block ?_
    refine HW.seq (HW.region [(0, .st), (1, .st), (2, .st), (3, .al), (4, .st), (5, .ef)] rfl rfl ?_)
    refine Plan.move (v := .int _ _) rfl rfl rfl ?_
    refine Plan.indexN (k) rfl rfl slV sizV rfl rfl rfl rfl (hlt) ?_
    refine Plan.loadAgg rfl rfl aggV sizV rfl (Sees.old hl1 (hbk _)) rfl ?_
    refine Plan.alloc rfl zerV fun b4 => ?_
    refine Plan.assign (v := .int _ _) rfl rfl rfl ?_
    refine Plan.storeA 0 rfl rfl hDn sizV rfl rfl rfl rfl rfl rfl ?_
    refine Plan.done ?_
    refine HW.ent (L := [Y g, Res.blk b4 #[int ps[k].1, int ps[k].2] 52]) ?_ (fun w hm => hm.perm (List.Perm.swap _ _ _))
    refine HW.seq (HW.region_any [10] [(0, .st), (1, .st), (2, .st), (3, .st), (4, .st), (5, .st), (6, .st), (7, .st), (8, .st), (9, .st), (10, .ef), (11, .st)] mix (by kernel_rfl) (fun _ _ _ _ _ h => h) (zeros rfl) ?_)
    refine Plan.move (v := .func _ _ _) rfl rfl rfl ?_
    refine Plan.loadAll 1 rfl rfl aggV sizV rfl rfl rfl ?_
    refine Plan.load (v := .slice _ _ _) rfl rfl agg_api_Vec rfl (Sees.old hbox hbX) ?_
    refine Plan.move (v := .int _ _) rfl rfl rfl ?_
    refine Plan.arithI rfl rfl rfl rfl rfl (by omega) ?_
    refine Plan.load (v := .slice _ _ _) rfl rfl agg_api_Vec rfl (Sees.old hbox hbX) ?_
    refine Plan.len rfl rfl slV rfl ?_
    refine Plan.rem rfl rfl rfl rfl (by omega) ?_
    refine Plan.indexN ((k + 1) % ps.length) rfl rfl slV sizV rfl rfl rfl hmod (hlt2) ?_
    refine Plan.loadAgg rfl rfl aggV sizV rfl (Sees.old hl2 (hbk _)) rfl ?_
    refine Plan.callY  (Y g).foot 1 rfl rfl rfl rfl (.inr (hDs (by decide))) (fun b hb => ⟨Y g, List.mem_cons_self, hb⟩) (fun w hm => by have h := hy k g w hlt hok (hm.sub (.cons_cons _ (.cons _ (.refl _)))); rw [edgeA, nth_get hlt, nx, nth_get hlt2] at h; exact h) ?_
    rintro v Ln ⟨g', rfl, hb⟩
    obtain ⟨b, rfl, hb⟩ : ∃ b, v = .bool b ∧ (b = true ∧ ok (k + 1) g' ∨ b = false ∧ okX g') := by rcases hb with ⟨rfl, h⟩ | ⟨rfl, h⟩ <;> exact ⟨_, rfl, by simp [h]⟩
    refine Plan.splitB (fun h22 => ?_) (fun h22 => ?_)
    · skip
      refine Plan.not rfl rfl rfl ?_
      refine Plan.done ?_
      refine HW.cond_false rfl ?_
      refine HW.skip ?_
      refine HW.region [(0, .st), (1, .st)] rfl rfl ?_
      refine Plan.arithI rfl rfl rfl rfl rfl (by omega) ?_
      refine Plan.move (v := .int _ _) rfl rfl rfl ?_
      refine Plan.done ?_
      exact ⟨(k + 1, g'), by simp only; omega, ⟨hlt, by rcases hb with ⟨_, h⟩ | ⟨h, _⟩; exact h; rw [h22] at h; cases h⟩, rfl, Ent.sub (.cons_cons _ (.cons _ (.refl _))), (by repeat (first | exact Agree.havoc _ _ _ | refine Agree.updN ?_ | refine Agree.upd rfl ?_ | refine Agree.updL rfl ?_ | refine Agree.havoc2 rfl ?_)), ⟨rfl, trivial⟩⟩
    · skip
      refine Plan.not rfl rfl rfl ?_
      refine Plan.done ?_
      refine HW.cond_true rfl ?_
      exact HW.ret ⟨rfl, _, [Y g'], .nil, .cons_cons _ (.cons _ (.refl _)), g', rfl, by rcases hb with ⟨h, _⟩ | ⟨_, h⟩; rw [h22] at h; cases h; exact .inr h⟩
  · replace h8 := of_decide_eq_false h8
    have hke : k = ps.length := by omega
    refine Plan.done ?_
    refine HW.seq ?_
    refine HW.cond_false rfl ?_
    refine HW.exit ?_
    exact ⟨rfl, _, [Y g], .nil, .refl _, g, rfl, .inl (hke ▸ hok)⟩

theorem edges_ct (A : Option Addr) (n c : Nat) (w : World) :
    Ct P 95 #[.slice A n c] w [] (fun v L => ∃ bx, v = .func (.func 115) #[] #[.pointer (some ⟨bx, 0, none⟩)] ∧ L = [Res.blk bx #[.slice A n c] 22]) := by
  refine Ct.of_body (rs := [.tmp 2]) (N := 4) (L := []) Try.func95 rfl rfl rfl (by kernel_rfl) rfl (Mem.refl w) ?_
  refine HW.seq (HW.region [(0, .ef), (1, .st)] rfl rfl ?_)
  refine Plan.boxS rfl rfl rfl fun b1 => ?_
  refine Plan.assign (v := .nilFunc) rfl rfl rfl ?_
  refine Plan.done ?_
  refine HW.seq (HW.region [(0, .st), (1, .st)] rfl rfl ?_)
  refine Plan.makeFunc rfl rfl rfl rfl ?_
  refine Plan.assign (v := .func _ _ _) rfl rfl rfl ?_
  refine Plan.done ?_
  exact HW.ret ⟨rfl, _, [Res.blk b1 #[.slice A n c] 22], .tmp rfl .nil, .refl _, b1, rfl, rfl⟩

/-- the iterator over the edges of what came in, as a range over it wants it -/
theorem edges_seq {J : Jd} {A : Option Addr} {ps : List Pt} {n c bx : Nat} {Lk : List Res} {w1 : World} {X1 : List Nat} (hP : J.P = P) (hJX : J.X = []) (hp : Rd enc 2 J.w0 A ps) (hn : n = ps.length) (hlen : ps.length ≤ 1000000000000)
    (hm1 : Mem J.w0 J.X Lk w1) (hX1 : ∀ b ∈ X1, (J.w0.heap.size ≤ b ∨ b ∈ J.X) ∧ ∀ r ∈ Lk, b ∉ r.foot) (hbx : Res.blk bx #[.slice A n c] 22 ∈ Lk) :
    SeqC J.P 115 #[.pointer (some ⟨bx, 0, none⟩)] ps.length (edgeA ps) w1 X1 := by
  rw [hP]
  rw [hJX] at hm1 hX1
  refine edges1_seq bx A ps n c w1 X1 (hm1.res _ hbx) (fun h => (hX1 bx h).2 _ hbx (List.mem_singleton.2 rfl)) (hp.mem hm1) hn (fun h0 a ha h => ?_) hlen
  rcases (hX1 _ h).1 with h1 | h1
  · obtain ⟨a', ha', hl⟩ := hp 0 h0
    rw [ha] at ha'
    injection ha' with ha'
    subst ha'
    have := World.block_lt_of_cell? _ _ (hl 0 _ rfl)
    have hb : ((a.add (0 * 2)).add 0).block = a.block := by rw [Nat.zero_mul]; rfl
    rw [hb] at this
    omega
  · cases h1

def sumN (f : Nat → Int) : Nat → Int
  | 0 => 0
  | k + 1 => sumN f k + f k

theorem sumN_bd {f : Nat → Int} {M : Int} : ∀ k, (∀ j, j < k → -M ≤ f j ∧ f j ≤ M) → -(M * k) ≤ sumN f k ∧ sumN f k ≤ M * k
  | 0, _ => by simp [sumN]
  | k + 1, h => by
    have h1 := sumN_bd (f := f) (M := M) k (fun j hj => h j (by omega))
    have h2 := h k (by omega)
    have e : M * ((k + 1 : Nat) : Int) = M * k + M := by rw [Int.natCast_add, Int.mul_add]; simp
    rw [e]
    simp only [sumN]
    omega

def crossP (a b : Pt) : Int := crossI a.1 a.2 b.1 b.2
/-- twice the area, as the code adds it up -/
def areaC (ps : List Pt) : Int := sumN (fun k => crossP (nth ps k) (nx ps k)) ps.length

theorem cross_bd {a b : Pt} (ha : Bd2 100000 a.1 a.2) (hb : Bd2 100000 b.1 b.2) : -20000000000 ≤ crossP a b ∧ crossP a b ≤ 20000000000 := by
  have e1 := mul_bd ha.1 hb.2
  have e2 := mul_bd ha.2 hb.1
  unfold crossP crossI
  omega

theorem Bd2.mono {N M a b : Int} (h : Bd2 N a b) (hNM : N ≤ M) : Bd2 M a b := ⟨⟨by have := h.1.1; omega, by have := h.1.2; omega⟩, ⟨by have := h.2.1; omega, by have := h.2.2; omega⟩⟩

theorem area_ct (A : Option Addr) (ps : List Pt) (n c : Nat) (w : World) (hp : Rd enc 2 w A ps) (hn : n = ps.length) (h0 : 0 < ps.length) (hlen : ps.length ≤ 1000000) (hbd : ∀ q ∈ ps, Bd2 100000 q.1 q.2) :
    Ct P 73 #[.slice A n c] w [] (fun v L => v = int (areaC ps) ∧ L = []) := by
  subst hn
  have hcb : ∀ j, j < ps.length → -20000000000 ≤ crossP (nth ps j) (nx ps j) ∧ crossP (nth ps j) (nx ps j) ≤ 20000000000 := fun j hj => cross_bd (hbd _ (nth_mem hj)) (hbd _ (nx_mem hj))
  refine Ct.of_bodyM (rs := [.tmp 2]) (N := 16) (L := []) Try.func73 rfl rfl rfl (by kernel_rfl) rfl (Mem.refl w) ?_
  refine HW.seq (HW.region [(0, .st)] rfl rfl ?_)
  refine Plan.assign (v := .int _ _) rfl rfl rfl ?_
  refine Plan.done ?_
  refine HW.seq (HW.region [(0, .al), (1, .ef)] rfl rfl ?_)
  refine Plan.alloc rfl zerI fun b3 => ?_
  refine Plan.storeI 0 rfl rfl hDn sizI rfl rfl rfl rfl ?_
  refine Plan.done ?_
  refine HW.seq ?_
  refine HW.seq (HW.region [(0, .st), (1, .ef)] rfl rfl ?_)
  refine Plan.move (v := .slice _ _ _) rfl rfl rfl ?_
  refine Plan.callF [] 0 rfl rfl rfl (.inl rfl) (by simp) (fun w hm => edges_ct A ps.length c w) ?_   -- tinplate/convex.edges
  rintro v Ln ⟨bx, rfl, rfl⟩
  refine Plan.done ?_
  refine HW.block ?_
  refine HW.rangeFunc (G := Int) (ps.length) (edgeA ps) (fun g => [Res.blk b3 #[int g] 3]) ([Res.blk bx #[.slice A ps.length c] 22]) (fun k g => g = sumN (fun k => crossP (nth ps k) (nx ps k)) k) (fun c g => False) (0) rfl rfl rfl (fun _ => rfl) (fun w hm => hm.perm (List.Perm.swap _ _ _)) (rfl) (fun w1 X1 hm1 hX1 => edges_seq rfl rfl hp rfl (by omega) hm1 hX1 List.mem_cons_self) (fun l k g wa wb hk hok hma hmb => ?_) (fun D g hok => ?_) (fun D c g hok => ?_)
  · skip
    refine HW.seq (HW.region [(0, .al), (1, .ef)] rfl rfl ?_)
    refine Plan.alloc rfl zerV fun b4 => ?_
    refine Plan.storeA 0 rfl rfl hDn sizV rfl rfl rfl rfl rfl rfl ?_
    refine Plan.done ?_
    refine HW.region [(0, .al), (1, .ef)] rfl rfl ?_
    refine Plan.alloc rfl zerV fun b5 => ?_
    refine Plan.storeA 0 rfl rfl hDn sizV rfl rfl rfl rfl rfl rfl ?_
    refine Plan.done ?_
    have hsb := sumN_bd (f := fun k => crossP (nth ps k) (nx ps k)) (M := 20000000000) k (fun j hj => hcb j (by omega))
    have hkb := hcb k hk
    rw [← hok] at hsb
    refine HW.block ?_
    refine HW.region_any [5] [(0, .st), (1, .st), (2, .st), (3, .ef), (4, .st), (5, .ef)] mix (by kernel_rfl) (fun _ _ _ _ _ h => h) (zeros rfl) ?_
    refine Plan.load (v := .int _ _) rfl rfl aggI rfl (Sees.one 2 rfl rfl) ?_
    refine Plan.loadAll 1 rfl rfl aggV sizV rfl rfl rfl ?_
    refine Plan.loadAll 0 rfl rfl aggV sizV rfl rfl rfl ?_
    refine Plan.callF [] 0 rfl rfl rfl (.inl rfl) (by simp) (fun w hm => cross_ct _ _ _ _ w ((hbd _ (nth_mem hk)).mono (by omega)) ((hbd _ (nx_mem hk)).mono (by omega))) ?_   -- tinplate/convex.cross
    rintro v Ln ⟨rfl, rfl⟩
    refine Plan.arithI rfl rfl rfl rfl rfl (by unfold crossP at hkb; omega) ?_
    refine Plan.storeI 2 rfl rfl (hDs (by decide)) sizI rfl rfl rfl rfl ?_
    refine Plan.done ?_
    exact ⟨g + crossP (nth ps k) (nx ps k), (by simp only [sumN]; rw [← hok]), Ent.sub (.cons _ (.cons _ (.refl _)))⟩
  · skip
    refine HW.seq (HW.region [(0, .st), (1, .st)] rfl rfl ?_)
    refine Plan.load (v := .int _ _) rfl rfl aggI rfl (Sees.one 1 rfl rfl) ?_
    refine Plan.assign (v := .int _ _) rfl rfl rfl ?_
    refine Plan.done ?_
    exact HW.ret ⟨[D], _, [], [], rfl, Ent.sub (.cons_cons _ (List.nil_sublist _)), .tmp rfl .nil, List.nil_sublist _, (by rw [areaC, ← hok]; rfl), rfl⟩
  · skip
    exact absurd hok id

end Go.Proofs.Ytjmklbkcpjmcaaa.V
