/-
  The triangle of alive: its first grid.
-/
import Derived.Test.YtjmklbkcpjmcaaaB3
import Derived.Test.YtjmklbkcpjmcaaaV16
import Derived.Test.YtjmklbkcpjmcaaaM3
namespace Go.Proofs.Ytjmklbkcpjmcaaa.V
open Go Go.RowKit Go.Proofs.Ytjmklbkcpjmcaaa.H Go.Proofs.Ytjmklbkcpjmcaaa.LL
set_option linter.unusedVariables false
set_option linter.unusedSimpArgs false

theorem move_blank {p : List Pt} (hb : blankF p = true) {v : Pt} (hv : Bd2 900 v.1 v.2) : MoveF p v = (p.map (vAdd v), 0) ∧ validF (p.map (vAdd v)) = true := by
  obtain ⟨h0, ho⟩ := blankF_spec hb
  obtain ⟨v1, v2, v3, v4⟩ := validF_spec h0
  have hh : hullF (p.map (vAdd v)) = p.map (vAdd v) := by rw [hullF_shift, v4]
  obtain ⟨⟨_, _⟩, ⟨_, _⟩⟩ := hv
  have hok : okB v.1 v.2 = true := by simp only [okB, decide_eq_true_eq]; omega
  have hany : (p.map (vAdd v)).any (fun q => !okB q.1 q.2) = false := by
    rw [List.any_eq_false]
    intro q hq
    obtain ⟨u, hu, rfl⟩ := List.mem_map.1 hq
    have := List.any_eq_false.1 ho u hu
    simp only [offB, decide_eq_true_eq] at this
    have h5 : okB (vAdd v u).1 (vAdd v u).2 = true := by
      show decide (-1000 ≤ u.1 + v.1 ∧ u.1 + v.1 ≤ 1000 ∧ -1000 ≤ u.2 + v.2 ∧ u.2 + v.2 ≤ 1000) = true
      rw [decide_eq_true_eq]
      omega
    rw [h5]; decide
  have hE : madeE (p.map (vAdd v)) = 0 := by
    unfold madeE
    rw [if_neg (by rw [hany]; decide), if_neg (by simpa using v2)]
  refine ⟨?_, validF_of (by simpa using v1) (by simpa using v2) hany hh⟩
  rw [MoveF, if_pos (by rw [h0, hok]; rfl), hh, madeL, if_pos hE, hE]

theorem hitB_eq {p : List Pt} (hb : blankF p = true) {v : Pt} (hv : Bd2 900 v.1 v.2) : hitB p v = (!(partedF p (p.map (vAdd v))).2 && decide (v ≠ (0, 0))) := by
  obtain ⟨h1, h2⟩ := move_blank hb hv
  rw [hitB, h1, OverlapF, if_pos (by rw [(blankF_spec hb).1, h2]; rfl)]

theorem blank_tri : blankF tri = true := by rw [blankF, valid_tri]; decide

def quickT (v : Pt) : Bool := !(partedF tri (tri.map (vAdd v))).2 && decide (v ≠ (0, 0))
theorem any_congr' {α : Type} {l : List α} {f g : α → Bool} (h : ∀ x ∈ l, f x = g x) : l.any f = l.any g := by
  induction l with
  | nil => rfl
  | cons x l ih => rw [List.any_cons, List.any_cons, h x List.mem_cons_self, ih fun y hy => h y (List.mem_cons_of_mem _ hy)]
theorem adm_tri_n (g : Gd) (N : Nat) (hN : N ≤ 625) : (hitsN tri N).any (hasG g) = (List.range N).any (fun n => quickT (bx n) && hasG g (bx n)) := by
  rw [hitsN, List.any_filter, List.any_map]
  have e : ∀ n ∈ List.range N, ((fun a => hitB tri a && hasG g a) ∘ bx) n = (quickT (bx n) && hasG g (bx n)) := fun n hn => by
    have hn : n < N := List.mem_range.1 hn
    obtain ⟨⟨_, _⟩, ⟨_, _⟩⟩ := bx_bd n (by omega)
    show (hitB tri (bx n) && hasG g (bx n)) = _
    rw [hitB_eq blank_tri ⟨⟨by omega, by omega⟩, ⟨by omega, by omega⟩⟩]
    rfl
  exact any_congr' e
theorem adm_tri (g : Gd) : admB tri g = !(List.range 625).any (fun n => quickT (bx n) && hasG g (bx n)) := by
  rw [admB, adm_tri_n g 625 (Nat.le_refl _)]
theorem tri_111 : adm tri (1, 1, 3) := by unfold adm; rw [adm_tri]; decide +kernel
theorem tri_101 : admB tri (1, 0, 1) = false := by rw [adm_tri]; decide +kernel
theorem tri_102 : admB tri (1, 0, 2) = false := by rw [adm_tri]; decide +kernel
theorem tri_112 : admB tri (1, 1, 2) = false := by rw [adm_tri]; decide +kernel
theorem tri_201 : admB tri (2, 0, 1) = false := by rw [adm_tri]; decide +kernel
theorem tri_103 : admB tri (1, 0, 3) = false := by rw [adm_tri]; decide +kernel
theorem den_tri : Den (adm tri) 3 1 1 := by
  refine ⟨by decide, by decide, by decide, by decide, tri_111, fun i a b h1 h2 h3 h4 h5 h => ?_⟩
  have hi : i = 1 ∨ i = 2 ∨ i = 3 := by omega
  have key : ∀ g : Gr, admB tri ((g.1 : Int), (g.2.1 : Int), (g.2.2 : Int)) = false → ¬ adm tri g := fun g hg h => by
    rw [adm, hg] at h; exact absurd h (by decide)
  rcases hi with rfl | rfl | rfl
  · obtain rfl : a = 1 := by omega
    obtain rfl : b = 0 := by simpa using h4
    exact key (1, 0, 1) tri_101 h
  · have ha : a = 1 ∨ a = 2 := by omega
    rcases ha with rfl | rfl
    · have hb : b = 0 ∨ b = 1 := by simp at h4; omega
      rcases hb with rfl | rfl
      · exact key (1, 0, 2) tri_102 h
      · exact key (1, 1, 2) tri_112 h
    · obtain rfl : b = 0 := by simpa using h4
      exact key (2, 0, 1) tri_201 h
  · obtain rfl : a = 1 := by omega
    obtain rfl : b = 0 := by omega
    exact key (1, 0, 3) tri_103 h
end Go.Proofs.Ytjmklbkcpjmcaaa.V
