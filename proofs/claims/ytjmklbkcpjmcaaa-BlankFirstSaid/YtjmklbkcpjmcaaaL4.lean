/-
  Grids, plainly: the first one in order that is good.
-/
import Derived.Test.YtjmklbkcpjmcaaaProg
namespace Go.Proofs.Ytjmklbkcpjmcaaa.LL
set_option linter.unusedVariables false
set_option linter.unusedSimpArgs false

abbrev Gr := Nat × Nat × Nat
/-- what the search for the first grid finds: index i, first number a, second number b -/
structure Den (adm : Gr → Prop) (i a b : Nat) : Prop where
  a0 : 0 < a
  ai : a ≤ i
  dvd : i % a = 0
  bd : b < i / a
  ok : adm (a, b, i / a)
  first : ∀ i' a' b', 0 < a' → a' ≤ i' → i' % a' = 0 → b' < i' / a' → (i' < i ∨ (i' = i ∧ (a' < a ∨ (a' = a ∧ b' < b)))) → ¬ adm (a', b', i' / a')
theorem Den.unique {adm : Gr → Prop} {i a b i' a' b' : Nat} (h : Den adm i a b) (h' : Den adm i' a' b') : i = i' ∧ a = a' ∧ b = b' := by
  have k1 : ¬ (i' < i ∨ (i' = i ∧ (a' < a ∨ (a' = a ∧ b' < b)))) := fun hl => h.first i' a' b' h'.a0 h'.ai h'.dvd h'.bd hl h'.ok
  have k2 : ¬ (i < i' ∨ (i = i' ∧ (a < a' ∨ (a = a' ∧ b < b')))) := fun hl => h'.first i a b h.a0 h.ai h.dvd h.bd hl h.ok
  omega
theorem Den.congr {adm adm' : Gr → Prop} {i a b : Nat} (h : Den adm i a b) (he : ∀ g, adm g ↔ adm' g) : Den adm' i a b :=
  ⟨h.a0, h.ai, h.dvd, h.bd, (he _).1 h.ok, fun i' a' b' h1 h2 h3 h4 h5 hn => h.first i' a' b' h1 h2 h3 h4 h5 ((he _).2 hn)⟩

/-- no good grid comes before this place -/
def Low (adm : Gr → Prop) (i a b : Nat) : Prop := ∀ i' a' b', 0 < a' → a' ≤ i' → i' % a' = 0 → b' < i' / a' → (i' < i ∨ (i' = i ∧ (a' < a ∨ (a' = a ∧ b' < b)))) → ¬ adm (a', b', i' / a')
theorem Low.start (adm : Gr → Prop) : Low adm 1 1 0 := fun i' a' b' h1 h2 h3 h4 h5 => by omega
theorem Low.nextB {adm : Gr → Prop} {i a b : Nat} (h : Low adm i a b) (hn : ¬ adm (a, b, i / a)) : Low adm i a (b + 1) := fun i' a' b' h1 h2 h3 h4 h5 => by
  by_cases hc : i' < i ∨ (i' = i ∧ (a' < a ∨ (a' = a ∧ b' < b)))
  · exact h i' a' b' h1 h2 h3 h4 hc
  · obtain ⟨rfl, rfl, rfl⟩ : i' = i ∧ a' = a ∧ b' = b := by omega
    exact hn
theorem Low.nextA {adm : Gr → Prop} {i a b : Nat} (h : Low adm i a b) (hn : i % a ≠ 0 ∨ i / a ≤ b) : Low adm i (a + 1) 0 := fun i' a' b' h1 h2 h3 h4 h5 => by
  by_cases hc : i' < i ∨ (i' = i ∧ (a' < a ∨ (a' = a ∧ b' < b)))
  · exact h i' a' b' h1 h2 h3 h4 hc
  · obtain ⟨rfl, rfl⟩ : i' = i ∧ a' = a := by omega
    omega
theorem Low.nextI {adm : Gr → Prop} {i a : Nat} (h : Low adm i a 0) (hn : i < a) : Low adm (i + 1) 1 0 := fun i' a' b' h1 h2 h3 h4 h5 =>
  h i' a' b' h1 h2 h3 h4 (by omega)
theorem Low.den {adm : Gr → Prop} {i a b : Nat} (h : Low adm i a b) (h1 : 0 < a) (h2 : a ≤ i) (h3 : i % a = 0) (h4 : b < i / a) (hok : adm (a, b, i / a)) : Den adm i a b := ⟨h1, h2, h3, h4, hok, h⟩
end Go.Proofs.Ytjmklbkcpjmcaaa.LL
