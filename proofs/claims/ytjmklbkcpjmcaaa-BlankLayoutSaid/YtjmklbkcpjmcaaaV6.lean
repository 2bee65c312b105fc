/-
  hull; Valid.
-/
import Derived.Test.YtjmklbkcpjmcaaaV5
namespace Go.Proofs.Ytjmklbkcpjmcaaa.V
open Go Go.RowKit Go.Proofs.Ytjmklbkcpjmcaaa.H
set_option linter.unusedVariables false
set_option linter.unusedSimpArgs false

def leB (a b : Pt) : Bool := decide (¬ lt2 b a)
/-- in order, by y and then x -/
def srt (ps : List Pt) : List Pt := ps.mergeSort leB

theorem leB_trans (a b c : Pt) (h1 : leB a b = true) (h2 : leB b c = true) : leB a c = true := by
  simp only [leB, decide_eq_true_eq] at *; unfold lt2 at *; omega
theorem leB_total (a b : Pt) : (leB a b || leB b a) = true := by
  simp only [leB, Bool.or_eq_true, decide_eq_true_eq]; unfold lt2; omega
theorem srt_perm (ps : List Pt) : (srt ps).Perm ps := List.mergeSort_perm ps leB
theorem srt_sorted (ps : List Pt) : SortedL (srt ps) := (List.pairwise_mergeSort leB_trans leB_total ps).imp fun h => by simpa [leB] using h
theorem sorted_eq {qs rs : List Pt} (h1 : SortedL qs) (h2 : SortedL rs) (hp : qs.Perm rs) : qs = rs :=
  List.Perm.eq_of_pairwise (le := fun a b => ¬ lt2 b a) (fun a b _ _ h3 h4 => by
    simp only [lt2] at h3 h4
    apply Prod.ext <;> omega) h1 h2 hp
theorem srt_eq {ps qs : List Pt} (hp : qs.Perm ps) (hs : SortedL qs) : qs = srt ps := sorted_eq hs (srt_sorted ps) (hp.trans (srt_perm ps).symm)

/-- hull, of points that are in order and differ -/
def hullP (l : List Pt) : List Pt := if l.length < 3 then l else (chainR [] l).tail.reverse ++ (chainR [] l.reverse).tail.reverse
def hullF (ps : List Pt) : List Pt := hullP (dd (srt ps))

theorem chainR_len : ∀ (l acc : List Pt), (chainR acc l).length ≤ acc.length + l.length
  | [], acc => Nat.le_refl _
  | v :: l, acc => by
    rw [chainR]
    refine Nat.le_trans (chainR_len l _) ?_
    have := (popR_sub v acc).length_le
    simp; omega

theorem chainR_ne : ∀ (l acc : List Pt), 0 < acc.length + l.length → 0 < (chainR acc l).length
  | [], acc, h => by simpa [chainR] using h
  | v :: l, acc, h => by rw [chainR]; exact chainR_ne l _ (by simp; omega)

theorem chainR_mem : ∀ (l acc : List Pt) (q : Pt), q ∈ chainR acc l → q ∈ acc ∨ q ∈ l
  | [], acc, q, h => .inl h
  | v :: l, acc, q, h => by
    rw [chainR] at h
    rcases chainR_mem l _ q h with h | h
    · rcases List.mem_cons.1 h with rfl | h
      · exact .inr List.mem_cons_self
      · exact .inl ((popR_sub v acc).subset h)
    · exact .inr (List.mem_cons_of_mem _ h)

theorem own_drop1 {o : Option Nat} {c : Nat} {acc : List Pt} {w : World} (h : (ownV o c acc.reverse).holds w) : (ownV o c acc.tail.reverse).holds w := by
  have := Res.own_take enc2 (acc.length - 1) (by simp) h
  have e : acc.reverse.take (acc.length - 1) = acc.tail.reverse := by
    cases acc with
    | nil => rfl
    | cons x l => simp only [List.reverse_cons, List.tail_cons, List.length_cons, Nat.add_sub_cancel]; exact List.take_left' (by simp)
  rw [e] at this
  exact this

theorem hull_ct (a : Addr) (ps : List Pt) (c n : Nat) (w : World) (hp : Rd enc 2 w (some a) ps) (hn : n = ps.length) (h0 : 0 < ps.length) (hlen : ps.length ≤ 1000000000000) (hbd : ∀ q ∈ ps, Bd2 536870912 q.1 q.2) :
    Ct P 90 #[.slice (some a) n c] w [] (fun v L => ∃ o c', v = slv o (hullF ps).length c' ∧ L = [ownV o c' (hullF ps)]) := by
  subst hn
  refine Ct.of_body (rs := [.tmp 2]) (N := 36) (L := []) Try.func90 rfl rfl rfl (by kernel_rfl) rfl (Mem.refl w) ?_
  refine HW.seq (HW.region [(0, .st)] rfl rfl ?_)
  refine Plan.assign (v := .slice _ _ _) rfl rfl rfl ?_
  refine Plan.done ?_
  refine HW.seq (HW.region [(0, .st), (1, .ef), (2, .st)] rfl rfl ?_)
  refine Plan.move (v := .slice _ _ _) rfl rfl rfl ?_
  refine Plan.callF [] 0 rfl rfl rfl (.inl rfl) (by simp) (fun w hm => clone_ct a ps _ w (hp.mem hm) (by omega)) ?_   -- slices.Clone[[]tinplate/api.Vec,tinplate/api.Vec]
  rintro v Ln ⟨o, c1, rfl, rfl⟩
  refine Plan.assign (v := .slice _ _ _) rfl rfl rfl ?_
  refine Plan.done ?_
  refine HW.pure (p := ∃ b, o = some b) (fun w' hm => Res.own_some (hm.res _ List.mem_cons_self) h0) fun hb => ?_
  obtain ⟨b, rfl⟩ := hb
  refine HW.seq (HW.region [(0, .st), (1, .ef)] rfl rfl ?_)
  refine Plan.move (v := .slice _ _ _) rfl rfl rfl ?_
  refine Plan.callF [b] 1 rfl rfl rfl (.inr hDn) (by simp [Res.own]) (fun w hm => sort_ct b c1 ps w (hm.res _ List.mem_cons_self) (by omega)) ?_   -- slices.SortFunc[[]tinplate/api.Vec,tinplate/api.Vec]
  rintro v Ln ⟨rfl, qs, hqp, hqs, hql, rfl⟩
  obtain rfl := srt_eq hqp hqs
  refine Plan.done ?_
  refine HW.seq (HW.region [(0, .st), (1, .ef), (2, .st)] rfl rfl ?_)
  refine Plan.move (v := .slice _ _ _) rfl rfl rfl ?_
  refine Plan.callF [b] 1 rfl rfl rfl (.inr hDn) (by simp [Res.own]) (fun w hm => compact_ct b c1 _ (srt ps) w (hm.res _ List.mem_cons_self) hql.symm (by omega)) ?_   -- slices.Compact[[]tinplate/api.Vec,tinplate/api.Vec]
  rintro v Ln ⟨rfl, rfl⟩
  obtain ⟨l, hl⟩ : ∃ l, l = dd (srt ps) := ⟨_, rfl⟩
  rw [← hl]
  have hll : l.length ≤ ps.length := by rw [hl, ← hql]; exact (dd_sub _).length_le
  have hlm : ∀ q ∈ l, Bd2 536870912 q.1 q.2 := fun q hq => hbd q (by rw [hl] at hq; exact (srt_perm ps).mem_iff.1 ((dd_sub _).subset hq))
  refine Plan.assign (v := .slice _ _ _) rfl rfl rfl ?_
  refine Plan.done ?_
  refine HW.seq (HW.region [(0, .st)] rfl rfl ?_)
  refine Plan.assign (v := .func _ _ _) rfl rfl rfl ?_
  refine Plan.done ?_
  refine HW.seq ?_
  refine HW.seq (HW.region [(0, .st), (1, .st), (2, .st)] rfl rfl ?_)
  refine Plan.move (v := .slice _ _ _) rfl rfl rfl ?_
  refine Plan.len rfl rfl slV rfl ?_
  refine Plan.cmp2 rfl rfl rfl rfl rfl (fun h15 => ?_) (fun h15 => ?_)
  · replace h15 := of_decide_eq_true h15
    have hF : hullF ps = l := by unfold hullF hullP; rw [← hl, if_pos (by omega)]
    refine Plan.done ?_
    refine HW.cond_true rfl ?_
    refine HW.seq (HW.region [(0, .st), (1, .st)] rfl rfl ?_)
    refine Plan.move (v := .slice _ _ _) rfl rfl rfl ?_
    refine Plan.assign (v := .slice _ _ _) rfl rfl rfl ?_
    refine Plan.done ?_
    exact HW.ret ⟨rfl, _, [ownV (some b) c1 l], .tmp rfl .nil, .refl _, some b, c1, (by rw [hF]; rfl), by rw [hF]⟩
  · replace h15 := of_decide_eq_false h15
    have hF : hullF ps = (chainR [] l).tail.reverse ++ (chainR [] l.reverse).tail.reverse := by unfold hullF hullP; rw [← hl, if_neg (by omega)]
    refine Plan.done ?_
    refine HW.cond_false rfl ?_
    refine HW.skip ?_
    refine HW.seq (HW.region [(0, .st), (1, .st), (2, .ef), (3, .st)] rfl rfl ?_)
    refine Plan.move (v := .func _ _ _) rfl rfl rfl ?_
    refine Plan.move (v := .slice _ _ _) rfl rfl rfl ?_
    refine Plan.callV  [] 0 rfl rfl rfl rfl (.inl rfl) (by simp) (fun w hm => chain_ct (some ⟨b, 0, none⟩) l c1 w (Res.own_rd enc2 (hm.res _ List.mem_cons_self)) (by omega) hlm) ?_
    rintro v Ln ⟨o2, c2, rfl, rfl⟩
    refine Plan.assign (v := .slice _ _ _) rfl rfl rfl ?_
    refine Plan.done ?_
    refine HW.ent (L := [ownV (some b) c1 l, ownV o2 c2 (chainR [] l).reverse]) ?_ (fun w hm => hm.perm (List.Perm.swap _ _ _))
    refine HW.seq (HW.region [(0, .st), (1, .ef)] rfl rfl ?_)
    refine Plan.move (v := .slice _ _ _) rfl rfl rfl ?_
    refine Plan.callF [b] 1 rfl rfl rfl (.inr hDn) (by simp [Res.own]) (fun w hm => reverse_ct b c1 _ l w (hm.res _ List.mem_cons_self) rfl (by omega)) ?_   -- slices.Reverse[[]tinplate/api.Vec,tinplate/api.Vec]
    rintro v Ln ⟨rfl, rfl⟩
    refine Plan.done ?_
    refine HW.seq (HW.region [(0, .st), (1, .st), (2, .ef), (3, .st)] rfl rfl ?_)
    refine Plan.move (v := .func _ _ _) rfl rfl rfl ?_
    refine Plan.move (v := .slice _ _ _) rfl rfl rfl ?_
    refine Plan.callV  [] 0 rfl rfl rfl rfl (.inl rfl) (by simp) (fun w hm => (by have := chain_ct (some ⟨b, 0, none⟩) l.reverse c1 w (Res.own_rd enc2 (hm.res _ List.mem_cons_self)) (by simp; omega) (fun q hq => hlm q (List.mem_reverse.1 hq)); rw [List.length_reverse] at this; exact this)) ?_
    rintro v Ln ⟨o3, c3, rfl, rfl⟩
    refine Plan.assign (v := .slice _ _ _) rfl rfl rfl ?_
    refine Plan.done ?_
    have hne1 := chainR_ne l [] (by simp; omega)
    have hne2 := chainR_ne l.reverse [] (by simp; omega)
    have hle1 := chainR_len l []
    have hle2 := chainR_len l.reverse []
    simp only [List.length_nil, Nat.zero_add, List.length_reverse] at hle1 hle2
    refine HW.pure (p := (∃ b, o2 = some b) ∧ (∃ b, o3 = some b) ∧ (chainR [] l).length ≤ c2 ∧ (chainR [] l.reverse).length ≤ c3) (fun w' hm => ?_) fun hb => ?_
    · have h3 := hm.res (ownV o3 c3 (chainR [] l.reverse).reverse) (by simp)
      have h2 := hm.res (ownV o2 c2 (chainR [] l).reverse) (by simp)
      exact ⟨Res.own_some h2 (by simpa using hne1), Res.own_some h3 (by simpa using hne2), by simpa using (Res.own_cap h2).1, by simpa using (Res.own_cap h3).1⟩
    obtain ⟨⟨b2, rfl⟩, ⟨b3, rfl⟩, hcap2, hcap3⟩ := hb
    refine HW.conv [ownV (some b3) c3 (chainR [] l.reverse).tail.reverse, ownV (some b2) c2 (chainR [] l).tail.reverse] (fun w' hm => ?_) ?_
    · have h1 : Mem w [] [ownV (some b3) c3 (chainR [] l.reverse).reverse, ownV (some b2) c2 (chainR [] l).reverse] w' := Mem.sub hm (.cons_cons _ (.cons _ (.refl _)))
      have h2 := Mem.swap (Rf := []) (r := ownV (some b3) c3 (chainR [] l.reverse).reverse) 0 (by rw [List.append_nil]; exact h1) rfl (ownV (some b3) c3 (chainR [] l.reverse).tail.reverse) (List.Sublist.refl _) own_drop1
      have h3 := Mem.swap (Rf := []) (r := ownV (some b2) c2 (chainR [] l).reverse) 1 h2 rfl (ownV (some b2) c2 (chainR [] l).tail.reverse) (List.Sublist.refl _) own_drop1
      rw [List.append_nil] at h3
      exact h3
    have hF1 : (hullF ps).length = (chainR [] l).length - 1 + ((chainR [] l.reverse).length - 1) := by rw [hF]; simp
    refine HW.seq (HW.region_any [10] [(0, .st), (1, .st), (2, .st), (3, .st), (4, .st), (5, .st), (6, .st), (7, .st), (8, .st), (9, .st), (10, .ef), (11, .st)] mix (by kernel_rfl) (fun _ _ _ _ _ h => h) (zeros rfl) ?_)
    refine Plan.move (v := .slice _ _ _) rfl rfl rfl ?_
    refine Plan.move (v := .slice _ _ _) rfl rfl rfl ?_
    refine Plan.len rfl rfl slV rfl ?_
    refine Plan.arithI rfl rfl rfl rfl rfl (by omega) ?_
    refine Plan.sliceHi ((chainR [] l).length - 1) rfl rfl slV sizV rfl rfl (by omega) (by omega) ?_
    refine Plan.move (v := .slice _ _ _) rfl rfl rfl ?_
    refine Plan.move (v := .slice _ _ _) rfl rfl rfl ?_
    refine Plan.len rfl rfl slV rfl ?_
    refine Plan.arithI rfl rfl rfl rfl rfl (by omega) ?_
    refine Plan.sliceHi ((chainR [] l.reverse).length - 1) rfl rfl slV sizV rfl rfl (by omega) (by omega) ?_
    refine Plan.append (enc := enc) (sz := 2) (ys := (chainR [] l.reverse).tail.reverse) (1) rfl rfl (hDs (by decide)) slV infV rfl (by decide) enc2 enc1 rfl rfl (by simp) rfl (by simp) (Sees.ownAll 0 rfl b3 rfl) (by simp; omega) (by simp; omega) fun o35 c35 => ?_
    refine Plan.assign (v := .slice _ _ _) rfl rfl rfl ?_
    refine Plan.done ?_
    exact HW.ret ⟨rfl, _, [ownV o35 c35 (hullF ps)], .tmp rfl .nil, (by rw [hF]; exact .cons _ (.refl _)), o35, c35, slv_eq (by simp [hF]), rfl⟩

/-- Valid's own predicate -/
theorem notOk_pred (fid : Nat) (hf : fid = 88) (q : Pt) (w : World) : PredC fid #[] (fun q => !okB q.1 q.2) w q := by
  subst hf
  intro L w hm
  refine Ct.of_body (rs := [.tmp 2]) (N := 6) (L := []) Try.func88 rfl rfl rfl (by kernel_rfl) rfl (Mem.refl w) ?_
  refine HW.seq (HW.region [(0, .ef), (1, .st)] rfl rfl ?_)
  refine Plan.boxA rfl rfl rfl fun b1 => ?_
  refine Plan.assign (v := .bool _) rfl rfl rfl ?_
  refine Plan.done ?_
  refine HW.seq (HW.region [(0, .st), (1, .ef), (2, .st), (3, .st)] rfl rfl ?_)
  refine Plan.loadAll 0 rfl rfl aggV sizV rfl rfl rfl ?_
  refine Plan.callF [] 0 rfl rfl rfl (.inl rfl) (by simp) (fun w hm => valid_ct _ _ _) ?_   -- tinplate/convex.valid
  rintro v Ln ⟨rfl, rfl⟩
  refine Plan.splitB (fun h4 => ?_) (fun h4 => ?_)
  · skip
    refine Plan.not rfl rfl rfl ?_
    refine Plan.assign (v := .bool _) rfl rfl rfl ?_
    refine Plan.done ?_
    exact HW.ret ⟨rfl, _, [], .tmp rfl .nil, List.nil_sublist _, (by show Value.bool (!true) = Value.bool (!okB q.1 q.2); rw [h4]), rfl⟩
  · skip
    refine Plan.not rfl rfl rfl ?_
    refine Plan.assign (v := .bool _) rfl rfl rfl ?_
    refine Plan.done ?_
    exact HW.ret ⟨rfl, _, [], .tmp rfl .nil, List.nil_sublist _, (by show Value.bool (!false) = Value.bool (!okB q.1 q.2); rw [h4]), rfl⟩

theorem hullF_len (ps : List Pt) : (hullF ps).length ≤ 2 * ps.length := by
  have h1 := (dd_sub (srt ps)).length_le
  rw [(srt_perm ps).length_eq] at h1
  unfold hullF hullP
  split
  · omega
  · have h2 := chainR_len (dd (srt ps)) []
    have h3 := chainR_len (dd (srt ps)).reverse []
    simp at h2 h3 ⊢
    omega

def validF (ps : List Pt) : Bool := !(decide (ps.length < 3) || decide (32 < ps.length) || ps.any (fun q => !okB q.1 q.2)) && decide (hullF ps = ps)

theorem okB_bd {q : Pt} (h : okB q.1 q.2 = true) : Bd2 1000 q.1 q.2 := by
  simp only [okB, decide_eq_true_eq] at h
  exact ⟨⟨by omega, by omega⟩, ⟨by omega, by omega⟩⟩

theorem Valid_ct (A : Option Addr) (ps : List Pt) (c n : Nat) (w : World) (hp : Rd enc 2 w A ps) (hn : n = ps.length) (hlen : ps.length ≤ 1000000000000) :
    Ct P 64 #[.slice A n c] w [] (fun v L => v = .bool (validF ps) ∧ L = []) := by
  subst hn
  refine Ct.of_body (rs := [.tmp 2]) (N := 19) (L := []) Try.func64 rfl rfl rfl (by kernel_rfl) rfl (Mem.refl w) ?_
  refine HW.seq (HW.region [(0, .st)] rfl rfl ?_)
  refine Plan.assign (v := .bool _) rfl rfl rfl ?_
  refine Plan.done ?_
  refine HW.seq ?_
  refine HW.seq (HW.region [(0, .st), (1, .st), (2, .st), (3, .st), (4, .st), (5, .st), (6, .st), (7, .st), (8, .st), (9, .st), (10, .ef), (11, .st)] rfl rfl ?_)
  refine Plan.move (v := .slice _ _ _) rfl rfl rfl ?_
  refine Plan.len rfl rfl slV rfl ?_
  refine Plan.cmp2 rfl rfl rfl rfl rfl (fun h5 => ?_) (fun h5 => ?_)
  · replace h5 := of_decide_eq_true h5
    refine Plan.move (v := .bool _) rfl rfl rfl ?_
    refine Plan.no rfl rfl ?_
    refine Plan.no rfl rfl ?_
    refine Plan.no rfl rfl ?_
    refine Plan.pick (v := .bool _) rfl rfl rfl rfl ?_
    refine Plan.move (v := .bool _) rfl rfl rfl ?_
    refine Plan.no rfl rfl ?_
    refine Plan.noE rfl rfl ?_
    refine Plan.pick (v := .bool _) rfl rfl rfl rfl ?_
    refine Plan.done ?_
    refine HW.cond_true rfl ?_
    refine HW.seq (HW.region [(0, .st)] rfl rfl ?_)
    refine Plan.assign (v := .bool _) rfl rfl rfl ?_
    refine Plan.done ?_
    exact HW.ret ⟨rfl, _, [], .tmp rfl .nil, List.nil_sublist _, (by rw [show validF ps = false by unfold validF; rw [decide_eq_true (by omega)]; rfl]; rfl), rfl⟩
  · replace h5 := of_decide_eq_false h5
    refine Plan.move (v := .bool _) rfl rfl rfl ?_
    refine Plan.move (v := .slice _ _ _) rfl rfl rfl ?_
    refine Plan.len rfl rfl slV rfl ?_
    refine Plan.cmp2 rfl rfl rfl rfl rfl (fun h9 => ?_) (fun h9 => ?_)
    · replace h9 := of_decide_eq_true h9
      refine Plan.pick (v := .bool _) rfl rfl rfl rfl ?_
      refine Plan.move (v := .bool _) rfl rfl rfl ?_
      refine Plan.no rfl rfl ?_
      refine Plan.noE rfl rfl ?_
      refine Plan.pick (v := .bool _) rfl rfl rfl rfl ?_
      refine Plan.done ?_
      refine HW.cond_true rfl ?_
      refine HW.seq (HW.region [(0, .st)] rfl rfl ?_)
      refine Plan.assign (v := .bool _) rfl rfl rfl ?_
      refine Plan.done ?_
      exact HW.ret ⟨rfl, _, [], .tmp rfl .nil, List.nil_sublist _, (by rw [show validF ps = false by unfold validF; rw [decide_eq_true (p := 32 < ps.length) (by omega)]; simp]; rfl), rfl⟩
    · replace h9 := of_decide_eq_false h9
      refine Plan.pick (v := .bool _) rfl rfl rfl rfl ?_
      refine Plan.move (v := .bool _) rfl rfl rfl ?_
      refine Plan.move (v := .slice _ _ _) rfl rfl rfl ?_
      refine Plan.callF [] 0 rfl rfl rfl (.inl rfl) (by simp) (fun w hm => containsFunc_ct A ps _ _ #[] (fun q => !okB q.1 q.2) w (hp.mem hm) (by omega) (fun q _ => notOk_pred _ rfl q w)) ?_   -- slices.ContainsFunc[[]tinplate/api.Vec,tinplate/api.Vec]
      rintro v Ln ⟨rfl, rfl⟩
      refine Plan.splitB (fun h13 => ?_) (fun h13 => ?_)
      · skip
        refine Plan.pick (v := .bool _) rfl rfl rfl rfl ?_
        refine Plan.done ?_
        refine HW.cond_true rfl ?_
        refine HW.seq (HW.region [(0, .st)] rfl rfl ?_)
        refine Plan.assign (v := .bool _) rfl rfl rfl ?_
        refine Plan.done ?_
        exact HW.ret ⟨rfl, _, [], .tmp rfl .nil, List.nil_sublist _, (by rw [show validF ps = false by unfold validF; rw [h13]; simp]; rfl), rfl⟩
      · skip
        obtain ⟨ad, rfl, _⟩ := hp 0 (by omega)
        have hall : ∀ q ∈ ps, okB q.1 q.2 = true := fun q hq => by have := List.any_eq_false.1 h13 q hq; simpa using this
        have hFl := hullF_len ps
        have hv : validF ps = decide (hullF ps = ps) := by unfold validF; rw [h13, decide_eq_false (by omega), decide_eq_false (by omega)]; rfl
        refine Plan.pick (v := .bool _) rfl rfl rfl rfl ?_
        refine Plan.done ?_
        refine HW.cond_false rfl ?_
        refine HW.skip ?_
        refine HW.seq (HW.region [(0, .st), (1, .ef), (2, .st), (3, .ef), (4, .st)] rfl rfl ?_)
        refine Plan.move (v := .slice _ _ _) rfl rfl rfl ?_
        refine Plan.callF [] 0 rfl rfl rfl (.inl rfl) (by simp) (fun w hm => hull_ct ad ps _ _ w (hp.mem hm) rfl (by omega) hlen (fun q hq => by have := okB_bd (hall q hq); exact ⟨⟨by have := this.1.1; omega, by have := this.1.2; omega⟩, ⟨by have := this.2.1; omega, by have := this.2.2; omega⟩⟩)) ?_   -- tinplate/convex.hull
        rintro v Ln ⟨o, c', rfl, rfl⟩
        refine Plan.move (v := .slice _ _ _) rfl rfl rfl ?_
        refine Plan.callF [] 0 rfl rfl rfl (.inl rfl) (by simp) (fun w hm => equal_ct _ (some ad) (hullF ps) ps c' _ w (Res.own_rd enc2 (hm.res _ List.mem_cons_self)) (hp.mem hm) (by omega) (by omega)) ?_   -- slices.Equal[[]tinplate/api.Vec,tinplate/api.Vec]
        rintro v Ln ⟨rfl, rfl⟩
        refine Plan.splitB (fun h18 => ?_) (fun h18 => ?_)
        · skip
          refine Plan.assign (v := .bool _) rfl rfl rfl ?_
          refine Plan.done ?_
          exact HW.ret ⟨rfl, _, [], .tmp rfl .nil, List.nil_sublist _, (by rw [hv, h18]; rfl), rfl⟩
        · skip
          refine Plan.assign (v := .bool _) rfl rfl rfl ?_
          refine Plan.done ?_
          exact HW.ret ⟨rfl, _, [], .tmp rfl .nil, List.nil_sublist _, (by rw [hv, h18]; rfl), rfl⟩

end Go.Proofs.Ytjmklbkcpjmcaaa.V
