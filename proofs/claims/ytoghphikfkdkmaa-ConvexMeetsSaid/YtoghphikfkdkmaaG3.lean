/-
  The chain of a hull, plainly: it turns left, and has all points on its left; there is just one such chain.
-/
import Derived.Test.YtoghphikfkdkmaaG2
import Derived.Test.YtoghphikfkdkmaaV10
namespace Go.Proofs.Ytoghphikfkdkmaa.V
open Go Go.RowKit Go.Proofs.Ytoghphikfkdkmaa.H
set_option linter.unusedVariables false
set_option linter.unusedSimpArgs false

/-- a stack, from its top, that turns left -/
def LT : List Pt → Prop
  | c :: b :: a :: r => 0 < trn a b c ∧ LT (b :: a :: r)
  | _ => True
/-- a stack, from its top, that has a point on its left -/
def Lf (x : Pt) : List Pt → Prop
  | b :: a :: r => 0 ≤ trn a b x ∧ Lf x (a :: r)
  | _ => True
def Dec (l : List Pt) : Prop := l.Pairwise (fun a b => hh b < hh a)

theorem LT.tail {x : Pt} : ∀ {l : List Pt}, LT (x :: l) → LT l
  | [], _ => trivial
  | [a], _ => trivial
  | a :: b :: r, h => h.2
theorem Lf.tail {x y : Pt} : ∀ {l : List Pt}, Lf x (y :: l) → Lf x l
  | [], _ => trivial
  | a :: r, h => h.2
theorem popR_LT (v : Pt) : ∀ l : List Pt, LT l → LT (popR v l) ∧ LT (v :: popR v l)
  | [], _ => ⟨trivial, trivial⟩
  | [x], _ => ⟨trivial, trivial⟩
  | b :: a :: r, h => by
    have ih := popR_LT v (a :: r) h.tail
    unfold popR
    split
    · exact ih
    · next hn => exact ⟨h, by omega, h⟩
theorem chainR_LT : ∀ (l acc : List Pt), LT acc → LT (chainR acc l)
  | [], acc, h => h
  | v :: l, acc, h => by rw [chainR]; exact chainR_LT l _ (popR_LT v acc h).2
theorem chainR_sub : ∀ (l acc : List Pt), (chainR acc l).Sublist (l.reverse ++ acc)
  | [], acc => by simp [chainR]
  | v :: l, acc => by
    rw [chainR]
    refine (chainR_sub l _).trans ?_
    rw [List.reverse_cons, List.append_assoc]
    exact List.Sublist.append_left ((popR_sub v acc).cons_cons v) _
theorem popR_last (v : Pt) : ∀ l : List Pt, (popR v l).getLast? = l.getLast?
  | [] => rfl
  | [x] => rfl
  | b :: a :: r => by
    have ih := popR_last v (a :: r)
    unfold popR
    split
    · rw [ih]; simp [List.getLast?_cons]
    · rfl
theorem chainR_last : ∀ (l acc : List Pt), acc ≠ [] → (chainR acc l).getLast? = acc.getLast?
  | [], acc, _ => rfl
  | v :: l, acc, h => by
    rw [chainR, chainR_last l _ (by simp), ← popR_last v acc]
    have : popR v acc ≠ [] := fun e => h (by have := popR_last v acc; rw [e] at this; simpa using this.symm)
    obtain ⟨y, ys, e⟩ := List.exists_cons_of_ne_nil this
    rw [e]; simp [List.getLast?_cons]
theorem chainR_last0 (v : Pt) (l : List Pt) : (chainR [] (v :: l)).getLast? = some v := by
  rw [chainR, chainR_last l _ (by simp)]; rfl
theorem chainR_head : ∀ (l acc : List Pt) (v : Pt), (chainR acc (l ++ [v])).head? = some v
  | [], acc, v => rfl
  | x :: l, acc, v => by rw [List.cons_append, chainR]; exact chainR_head l _ v

/-! all points lie on the left -/
theorem popLf (v x : Pt) : ∀ (t : Pt) (acc : List Pt), Dec (v :: t :: acc) → Lf x (t :: acc) → (hh x ≤ hh t ∨ 0 ≤ trn t v x) → (∀ y, (t :: acc).getLast? = some y → x = y ∨ hh y < hh x) → Lf x (v :: popR v (t :: acc))
  | s, [], hd, hl, h, hb => by
    unfold popR
    refine ⟨?_, trivial⟩
    rcases h with h | h
    · rcases hb s rfl with rfl | h2
      · rw [trn_cr, cr_sb]; omega
      · omega
    · exact h
  | b, a :: r, hd, hl, h, hb => by
    have hd1 : hh a < hh b ∧ hh b < hh v ∧ hh a < hh v := by
      unfold Dec at hd; simp only [List.pairwise_cons, List.mem_cons] at hd
      exact ⟨hd.2.1 a (.inl rfl), hd.1 b (.inl rfl), hd.1 a (.inr (.inl rfl))⟩
    have hab := hl.1
    rw [trn_cr] at hab
    unfold popR
    split
    · next hp =>
      refine popLf v x a r ?_ hl.2 ?_ (fun y hy => hb y (by simpa [List.getLast?_cons] using hy))
      · unfold Dec at hd ⊢; simp only [List.pairwise_cons, List.mem_cons] at hd ⊢
        exact ⟨fun y hy => hd.1 y (.inr hy), hd.2.2⟩
      · rcases Int.lt_or_le (hh a) (hh x) with h2 | h2
        · refine .inr ?_
          rw [trn_cr] at hp ⊢
          have e := cr_neg (sb v a) (sb b a)
          exact up_trans_e (a := sb v a) (b := sb b a) (c := sb x a) (by rw [hh_sb]; omega) (by rw [hh_sb]; omega) (by rw [hh_sb]; omega) (by omega) hab
        · exact .inl h2
    · next hp =>
      refine ⟨?_, hl⟩
      rcases h with h | h
      · rw [trn_cr] at hp ⊢
        have hp' : 0 < cr (sb b a) (sb v b) := by
          have e : cr (sb b a) (sb v a) = cr (sb b a) (sb v b) := by unfold cr sb; grind
          omega
        have hab' : 0 ≤ cr (sb b a) (sb x b) := by
          have e : cr (sb b a) (sb x a) = cr (sb b a) (sb x b) := by unfold cr sb; grind
          omega
        have pk := pluck (sb b a) (sb v b) (sb x b)
        rw [cr_neg (sb b a) (sb x b), hh_sb x b, hh_sb b a, hh_sb v b] at pk
        have e1 := npn (Int.le_of_lt hp') (show hh x - hh b ≤ 0 by omega)
        have e2 := nnp (show -cr (sb b a) (sb x b) ≤ 0 by omega) (show 0 ≤ hh v - hh b by omega)
        exact fnon (b := hh b - hh a) (by omega) (by omega)
      · exact h

theorem left_below (v : Pt) : ∀ (b a : Pt) (r : List Pt), Dec (v :: b :: a :: r) → LT (b :: a :: r) → 0 < trn a b v → Lf v (b :: a :: r)
  | b, a, [], hd, hl, h => ⟨Int.le_of_lt h, trivial⟩
  | b, a, a' :: r, hd, hl, h => by
    have hd1 : hh a < hh b ∧ hh b < hh v ∧ hh a < hh v ∧ hh a' < hh a := by
      unfold Dec at hd; simp only [List.pairwise_cons, List.mem_cons] at hd
      exact ⟨hd.2.1 a (.inl rfl), hd.1 b (.inl rfl), hd.1 a (.inr (.inl rfl)), hd.2.2.1 a' (.inl rfl)⟩
    refine ⟨Int.le_of_lt h, left_below v a a' r ?_ hl.2 ?_⟩
    · unfold Dec at hd ⊢; simp only [List.pairwise_cons, List.mem_cons] at hd ⊢
      exact ⟨fun y hy => hd.1 y (.inr hy), hd.2.2⟩
    · have h1 := hl.1
      rw [trn_cr] at h h1 ⊢
      have e1 : cr (sb a a') (sb b a') = cr (sb a a') (sb b a) := by unfold cr sb; grind
      have e2 : cr (sb b a) (sb v a) = cr (sb b a) (sb v b) := by unfold cr sb; grind
      have e3 : cr (sb a a') (sb v a') = cr (sb a a') (sb b a) + cr (sb a a') (sb v b) := by unfold cr sb; grind
      have := up_trans (a := sb a a') (b := sb b a) (c := sb v b) (by rw [hh_sb]; omega) (by rw [hh_sb]; omega) (by rw [hh_sb]; omega) (by omega) (by omega)
      omega

theorem popR_cases (v : Pt) : ∀ (t : Pt) (acc : List Pt), (∃ s, popR v (t :: acc) = [s]) ∨ ∃ b a r, popR v (t :: acc) = b :: a :: r ∧ 0 < trn a b v
  | s, [] => .inl ⟨s, rfl⟩
  | b, a :: r => by
    unfold popR
    split
    · exact popR_cases v a r
    · next h => exact .inr ⟨b, a, r, rfl, by omega⟩

theorem Dec.sub {l l' : List Pt} (h : Dec l) (hs : l'.Sublist l) : Dec l' := List.Pairwise.sublist hs h

theorem chainR_left : ∀ (l acc : List Pt) (t : Pt) (X : Pt → Prop), LT (t :: acc) → Dec (t :: acc) → (∀ x, X x → Lf x (t :: acc) ∧ hh x ≤ hh t ∧ ∀ y, (t :: acc).getLast? = some y → x = y ∨ hh y < hh x) → (t :: l).Pairwise (fun a b => hh a < hh b) →
    ∀ x, X x ∨ x ∈ l → Lf x (chainR (t :: acc) l)
  | [], acc, t, X, h1, h2, h3, h4, x, hx => by
    rcases hx with hx | hx
    · exact (h3 x hx).1
    · cases hx
  | v :: l, acc, t, X, h1, h2, h3, h4, x, hx => by
    rw [chainR]
    simp only [List.pairwise_cons, List.mem_cons] at h4
    have htv : hh t < hh v := h4.1 v (.inl rfl)
    have hdv : Dec (v :: t :: acc) := by
      unfold Dec at h2 ⊢
      rw [List.pairwise_cons]
      refine ⟨fun y hy => ?_, h2⟩
      rcases List.mem_cons.1 hy with rfl | hy
      · exact htv
      · have := (List.pairwise_cons.1 h2).1 y hy; omega
    have hlast : ∀ y, (v :: popR v (t :: acc)).getLast? = some y → (t :: acc).getLast? = some y := fun y hy => by
      rw [← popR_last v]
      rcases popR_cases v t acc with ⟨s, e⟩ | ⟨b, a, r, e, _⟩ <;> rw [e] at hy ⊢ <;> simpa [List.getLast?_cons] using hy
    refine chainR_left l (popR v (t :: acc)) v (fun x => X x ∨ x = v) (popR_LT v _ h1).2 (hdv.sub ((popR_sub v _).cons_cons v)) ?_ (List.pairwise_cons.2 h4.2) x ?_
    · rintro z (hz | rfl)
      · obtain ⟨z1, z2, z3⟩ := h3 z hz
        exact ⟨popLf v z t acc hdv z1 (.inl z2) z3, by omega, fun y hy => z3 y (hlast y hy)⟩
      · refine ⟨?_, Int.le_refl _, fun y hy => ?_⟩
        · rcases popR_cases z t acc with ⟨s, e⟩ | ⟨b, a, r, e, e2⟩
          · rw [e]
            refine ⟨?_, trivial⟩
            rw [trn_cr, cr_self]; exact Int.le_refl _
          · have hd3 := hdv.sub ((popR_sub z (t :: acc)).cons_cons z)
            have hl3 := (popR_LT z _ h1).1
            rw [e] at hd3 hl3 ⊢
            refine ⟨?_, left_below z b a r hd3 hl3 e2⟩
            rw [trn_cr, cr_self]; exact Int.le_refl _
        · have := List.mem_of_getLast? (hlast y hy)
          exact .inr ((List.pairwise_cons.1 hdv).1 y this)
    · rcases hx with hx | hx
      · exact .inl (.inl hx)
      · rcases List.mem_cons.1 hx with rfl | hx
        · exact .inl (.inr rfl)
        · exact .inr hx

theorem chain_left {L : List Pt} (h : L.Pairwise (fun a b => hh a < hh b)) (x : Pt) (hx : x ∈ L) : Lf x (chainR [] L) := by
  cases L with
  | nil => cases hx
  | cons v l =>
    rw [chainR]
    refine chainR_left l [] v (fun x => x = v) trivial (List.pairwise_singleton _ _) ?_ h x (List.mem_cons.1 hx)
    rintro z rfl
    exact ⟨trivial, Int.le_refl _, fun y hy => .inl (by simpa using hy)⟩

/-! there is just one -/
theorem dec_one {c : Pt} {l : List Pt} (h : Dec (c :: l)) (hl : (c :: l).getLast? = some c) : l = [] := by
  cases l with
  | nil => rfl
  | cons b r =>
    have : c ∈ b :: r := List.mem_of_getLast? (by simpa [List.getLast?_cons] using hl)
    have := (List.pairwise_cons.1 h).1 c this
    omega

theorem last_low : ∀ {l : List Pt}, Dec l → ∀ {y : Pt}, l.getLast? = some y → ∀ x ∈ l, hh y ≤ hh x
  | [], _, y, hy, x, hx => by cases hx
  | [a], _, y, hy, x, hx => by simp at hy hx; subst hy hx; exact Int.le_refl _
  | a :: b :: l, h, y, hy, x, hx => by
    have hy' : (b :: l).getLast? = some y := by simpa [List.getLast?_cons] using hy
    rcases List.mem_cons.1 hx with rfl | hx
    · have := (List.pairwise_cons.1 h).1 y (List.mem_of_getLast? hy'); omega
    · exact last_low (List.pairwise_cons.1 h).2 hy' x hx

theorem near_top {c b b' : Pt} {r r' : List Pt} (hd : Dec (c :: b :: r)) (hl : LT (c :: b :: r)) (hd' : Dec (c :: b' :: r')) (hlast : (c :: b :: r).getLast? = (c :: b' :: r').getLast?)
    (h1 : Lf b' (c :: b :: r)) (hcr : cr (sb c b) (sb c b') = 0) : ¬ hh b' < hh b := by
  intro hlt
  have hcb : hh b < hh c := (List.pairwise_cons.1 hd).1 b (by simp)
  cases r with
  | nil =>
    have e : (c :: b' :: r').getLast? = some b := by rw [← hlast]; rfl
    have := last_low hd' e b' (by simp)
    omega
  | cons a r =>
    have hba : hh a < hh b := (List.pairwise_cons.1 (List.pairwise_cons.1 hd).2).1 a (by simp)
    have t1 := hl.1
    have t2 := h1.2.1
    rw [trn_cr] at t1 t2
    have e1 : cr (sb b a) (sb c a) = cr (sb b a) (sb c b) := by unfold cr sb; grind
    have e2 : cr (sb b a) (sb b' a) = - cr (sb b a) (sb b b') := by unfold cr sb; grind
    have e3 : cr (sb c b) (sb c b') = cr (sb c b) (sb b b') := by unfold cr sb; grind
    have pk := pluck (sb b a) (sb c b) (sb b b')
    rw [show cr (sb c b) (sb b b') = 0 by omega, Int.zero_mul, cr_neg (sb b a) (sb b b'), hh_sb, hh_sb c b] at pk
    have k1 := mpp (show 0 < cr (sb b a) (sb c b) by omega) (show 0 < hh b - hh b' by omega)
    have k2 := npp (show 0 ≤ -cr (sb b a) (sb b b') by omega) (show 0 ≤ hh c - hh b by omega)
    omega

theorem chain_unique : ∀ (R R' : List Pt), Dec R → Dec R' → LT R → LT R' → R ≠ [] → R.head? = R'.head? → R.getLast? = R'.getLast? → (∀ x ∈ R', Lf x R) → (∀ x ∈ R, Lf x R') → R = R'
  | [], _, _, _, _, _, h, _, _, _, _ => absurd rfl h
  | c :: T, [], _, _, _, _, _, h, _, _, _ => by cases h
  | c :: T, c' :: T', d, d', l, l', _, h, e, h1, h2 => by
    simp only [List.head?_cons, Option.some.injEq] at h
    subst h
    cases T with
    | nil =>
      have : (c :: T').getLast? = some c := by rw [← e]; rfl
      rw [dec_one d' this]
    | cons b r =>
      cases T' with
      | nil =>
        have : (c :: b :: r).getLast? = some c := by rw [e]; rfl
        exact absurd (dec_one d this) (by simp)
      | cons b' r' =>
        have hb : hh b < hh c := (List.pairwise_cons.1 d).1 b (by simp)
        have hb' : hh b' < hh c := (List.pairwise_cons.1 d').1 b' (by simp)
        have k1 := (h1 b' (by simp)).1
        have k2 := (h2 b (by simp)).1
        rw [trn_cr] at k1 k2
        have f1 : cr (sb c b) (sb b' b) = - cr (sb c b) (sb c b') := by unfold cr sb; grind
        have f2 : cr (sb c b') (sb b b') = cr (sb c b) (sb c b') := by unfold cr sb; grind
        have hcr : cr (sb c b) (sb c b') = 0 := by omega
        have n1 := near_top d l d' e (h1 b' (by simp)) hcr
        have n2 := near_top d' l' d e.symm (h2 b (by simp)) (by rw [cr_neg]; omega)
        have hbb : b = b' := by
          have eh : hh b = hh b' := by omega
          have g1 : cr (sb c b) (sb c b') = (b.2 - b'.2) * hh (sb c b) := by
            have : c.1 - b'.1 = c.1 - b.1 + 1000000 * (b'.2 - b.2) := by unfold hh at eh; omega
            unfold cr hh sb; simp only; rw [this]; grind
          rw [hcr] at g1
          have g2 : hh (sb c b) ≠ 0 := by rw [hh_sb]; omega
          have g3 : b.2 - b'.2 = 0 := by
            rcases Int.mul_eq_zero.1 g1.symm with h | h
            · exact h
            · exact absurd h g2
          unfold hh at eh
          exact Prod.ext (by omega) (by omega)
        subst hbb
        congr 1
        refine chain_unique (b :: r) (b :: r') (List.pairwise_cons.1 d).2 (List.pairwise_cons.1 d').2 l.tail l'.tail (by simp) rfl ?_ (fun x hx => (h1 x (List.mem_cons_of_mem _ hx)).tail) (fun x hx => (h2 x (List.mem_cons_of_mem _ hx)).tail)
        simpa [List.getLast?_cons] using e

end Go.Proofs.Ytoghphikfkdkmaa.V
