/-
  Sums of floors, plainly.
-/
import Derived.Test.YtjmklbkcpjmcaaaM1
namespace Go.Proofs.Ytjmklbkcpjmcaaa.V
open Go Go.RowKit Go.Proofs.Ytjmklbkcpjmcaaa.H
set_option linter.unusedVariables false
set_option linter.unusedSimpArgs false

theorem sumN_const (c : Int) : ∀ n, sumN (fun _ => c) n = c * n
  | 0 => by simp [sumN]
  | n + 1 => by
    rw [sumN, sumN_const c n, Int.natCast_add, Int.mul_add]; simp
theorem sumN_zero {f : Nat → Int} : ∀ n, (∀ k, k < n → f k = 0) → sumN f n = 0
  | 0, _ => rfl
  | n + 1, h => by rw [sumN, sumN_zero n (fun k hk => h k (by omega)), h n (by omega)]; rfl
theorem sumN_first (f : Nat → Int) (n : Nat) : sumN f (n + 1) = f 0 + sumN (fun k => f (1 + k)) n := by
  rw [Nat.add_comm n 1, sumN_split f 1 n]
  simp [sumN]
theorem sumN_rev : ∀ (n : Nat) (f : Nat → Int), sumN f n = sumN (fun k => f (n - 1 - k)) n
  | 0, f => rfl
  | n + 1, f => by
    rw [sumN_first (fun k => f (n + 1 - 1 - k)), sumN, sumN_rev n f]
    have : sumN (fun k => f (n + 1 - 1 - (1 + k))) n = sumN (fun k => f (n - 1 - k)) n := sumN_congr n fun k hk => by
      congr 1; omega
    rw [this]
    simp only [Nat.add_sub_cancel, Nat.sub_zero]
    omega
theorem sumN_mulc (c : Int) (f : Nat → Int) : ∀ n, sumN (fun k => c * f k) n = c * sumN f n
  | 0 => by simp [sumN]
  | n + 1 => by simp only [sumN]; rw [sumN_mulc c f n, Int.mul_add]
theorem sumN_tele (f : Nat → Int) : ∀ n, sumN (fun k => f (k + 1) - f k) n = f n - f 0
  | 0 => by simp [sumN]
  | n + 1 => by simp only [sumN]; rw [sumN_tele f n]; omega

/-! how many multiples there are -/
theorem count_mult (e : Nat) (he : 0 < e) : ∀ g, sumN (fun t => if e ∣ t then 1 else 0) (g * e) = g
  | 0 => by simp [sumN]
  | g + 1 => by
    rw [Nat.succ_mul, sumN_split, count_mult e he g]
    have h1 : sumN (fun k => if e ∣ g * e + k then (1 : Int) else 0) e = sumN (fun k => if e ∣ k then (1 : Int) else 0) e := sumN_congr e fun k hk => by
      have : e ∣ g * e + k ↔ e ∣ k := (Nat.dvd_add_iff_right (Nat.dvd_mul_left e g)).symm
      simp only [this]
    have h2 : sumN (fun k => if e ∣ k then (1 : Int) else 0) e = 1 := by
      obtain ⟨e', rfl⟩ : ∃ e', e = e' + 1 := ⟨e - 1, by omega⟩
      rw [sumN_first, sumN_zero e' (fun k hk => if_neg fun hd => by
        have := Nat.le_of_dvd (by omega) hd
        omega)]
      simp
    rw [h1, h2]; simp

theorem dvd_gcd (N d t : Nat) (hd : 0 < d) : d ∣ N * t ↔ d / Nat.gcd N d ∣ t := by
  have hg : 0 < Nat.gcd N d := Nat.gcd_pos_of_pos_right _ hd
  have hc : Nat.Coprime (d / Nat.gcd N d) (N / Nat.gcd N d) := (Nat.coprime_div_gcd_div_gcd hg).symm
  have e1 : d = Nat.gcd N d * (d / Nat.gcd N d) := (Nat.mul_div_cancel' (Nat.gcd_dvd_right N d)).symm
  have e2 : N = Nat.gcd N d * (N / Nat.gcd N d) := (Nat.mul_div_cancel' (Nat.gcd_dvd_left N d)).symm
  generalize hg' : Nat.gcd N d = g at *
  generalize d / g = d' at *
  generalize N / g = N' at *
  subst e1 e2
  rw [Nat.mul_assoc, Nat.mul_dvd_mul_iff_left hg]
  exact ⟨fun h => hc.dvd_of_dvd_mul_left h, fun h => Nat.dvd_trans h (Nat.dvd_mul_left _ _)⟩

/-- is a divisible? -/
def dv (d a : Int) : Int := if a % d = 0 then 1 else 0

theorem sum_dv (n : Int) (d : Nat) (hd : 0 < d) : sumN (fun t => dv d (n * t)) d = (Nat.gcd n.natAbs d : Nat) := by
  have hg : 0 < Nat.gcd n.natAbs d := Nat.gcd_pos_of_pos_right _ hd
  have e1 : sumN (fun t => dv d (n * t)) d = sumN (fun t => if d / Nat.gcd n.natAbs d ∣ t then 1 else 0) d := sumN_congr d fun t ht => by
    unfold dv
    have : (n * (t : Int)) % (d : Int) = 0 ↔ d / Nat.gcd n.natAbs d ∣ t := by
      rw [← dvd_gcd _ _ _ hd, ← Int.dvd_iff_emod_eq_zero, Int.ofNat_dvd_left, Int.natAbs_mul, Int.natAbs_natCast]
    simp only [this]
  rw [e1]
  have e2 : d = Nat.gcd n.natAbs d * (d / Nat.gcd n.natAbs d) := (Nat.mul_div_cancel' (Nat.gcd_dvd_right _ d)).symm
  have hpos : 0 < d / Nat.gcd n.natAbs d := Nat.div_pos (Nat.le_of_dvd hd (Nat.gcd_dvd_right _ d)) hg
  have := count_mult (d / Nat.gcd n.natAbs d) hpos (Nat.gcd n.natAbs d)
  rw [← e2] at this
  exact this

theorem neg_div (a d : Int) (hd : 0 < d) : (-a) / d = -(a / d) - 1 + dv d a := by
  have h1 := Int.mul_ediv_add_emod a d
  have h2 := Int.emod_nonneg a (Int.ne_of_gt hd)
  have h3 := Int.emod_lt_of_pos a hd
  have key : ∀ q r : Int, -a = d * q + r → 0 ≤ r → r < d → (-a) / d = q := fun q r h hr hr2 => by
    rw [h, Int.add_comm, Int.add_mul_ediv_left _ _ (Int.ne_of_gt hd), Int.ediv_eq_zero_of_lt hr hr2]; omega
  unfold dv
  split
  · next h => rw [key (-(a / d)) 0 (by rw [Int.mul_neg]; omega) (by omega) hd]; omega
  · next h => rw [key (-(a / d) - 1) (d - a % d) (by rw [Int.mul_sub, Int.mul_neg, Int.mul_one]; omega) (by omega) (by omega)]; omega

theorem sum_floor (n : Int) (d : Nat) (hd : 0 < d) : 2 * sumN (fun t => (n * t) / d) d = n * d - n - d + (Nat.gcd n.natAbs d : Nat) := by
  have hs := sum_dv n d hd
  obtain ⟨m, rfl⟩ : ∃ m, d = m + 1 := ⟨d - 1, by omega⟩
  have hd' : (0 : Int) < ((m + 1 : Nat) : Int) := by omega
  generalize hD : ((m + 1 : Nat) : Int) = D at hd' hs ⊢
  rw [sumN_first] at hs ⊢
  have z1 : (n * ((0 : Nat) : Int)) / D = 0 := by simp
  have z2 : dv D (n * ((0 : Nat) : Int)) = 1 := by simp [dv]
  rw [z1]
  rw [z2] at hs
  have hrev := sumN_rev m (fun k => (n * ((1 + k : Nat) : Int)) / D)
  have e : sumN (fun k => (n * ((1 + (m - 1 - k) : Nat) : Int)) / D) m = sumN (fun k => (n - 1) + (dv D (n * ((1 + k : Nat) : Int)) - (n * ((1 + k : Nat) : Int)) / D)) m := sumN_congr m fun k hk => by
    have e1 : ((1 + (m - 1 - k) : Nat) : Int) = D - ((1 + k : Nat) : Int) := by omega
    rw [e1, Int.mul_sub]
    have e2 : n * D - n * ((1 + k : Nat) : Int) = -(n * ((1 + k : Nat) : Int)) + n * D := by omega
    rw [e2, Int.add_mul_ediv_right _ _ (Int.ne_of_gt hd'), neg_div _ _ hd']
    omega
  rw [e, sumN_plus (fun _ => n - 1), sumN_const, sumN_minus] at hrev
  have hm : (m : Int) = D - 1 := by omega
  rw [hm, Int.mul_sub, Int.sub_mul] at hrev
  generalize sumN (fun k => (n * ((1 + k : Nat) : Int)) / D) m = S at hrev ⊢
  generalize sumN (fun k => dv D (n * ((1 + k : Nat) : Int))) m = T at hrev hs
  omega

/-- a row's bound by an edge from a up to b: the greatest x that lies at least s to the left -/
def bnd (s : Int) (a b : Pt) (y : Int) : Int := a.1 + ((b.1 - a.1) * (y - a.2) - s) / (b.2 - a.2)

theorem bnd_iff {s : Int} {a b : Pt} {y x : Int} (h : a.2 < b.2) : x ≤ bnd s a b y ↔ s ≤ (b.1 - a.1) * (y - a.2) - (b.2 - a.2) * (x - a.1) := by
  unfold bnd
  have : x ≤ a.1 + ((b.1 - a.1) * (y - a.2) - s) / (b.2 - a.2) ↔ x - a.1 ≤ ((b.1 - a.1) * (y - a.2) - s) / (b.2 - a.2) := by omega
  rw [this, Int.le_ediv_iff_mul_le (by omega), Int.mul_comm]
  omega

/-- twice the sum of the bounds of an edge -/
def Fz (s : Int) (a b : Pt) : Int := if a.2 = b.2 then 0 else (a.1 + b.1) * (b.2 - a.2) - (b.1 - a.1) - (b.2 - a.2) + (1 - 2 * s) * (gcdE a b : Nat)

theorem sum_bnd {s : Int} (hs : s = 0 ∨ s = 1) {a b : Pt} (h : a.2 ≤ b.2) : 2 * sumN (fun t => bnd s a b (a.2 + t)) (b.2 - a.2).toNat = Fz s a b := by
  unfold Fz
  split
  · next he => rw [he, Int.sub_self]; rfl
  · next hne =>
    have hd : 0 < (b.2 - a.2).toNat := by omega
    have hD : (((b.2 - a.2).toNat : Nat) : Int) = b.2 - a.2 := by omega
    have hD0 : 0 < b.2 - a.2 := by omega
    have h1 := sum_floor (b.1 - a.1) _ hd
    have h2 := sum_dv (b.1 - a.1) _ hd
    have hg : Nat.gcd (b.1 - a.1).natAbs (b.2 - a.2).toNat = gcdE a b := by
      unfold gcdE
      congr 1
      omega
    rw [hg, hD] at h1 h2
    have e : sumN (fun t => bnd s a b (a.2 + t)) (b.2 - a.2).toNat = sumN (fun t => a.1 + ((((b.1 - a.1) * (t : Nat)) / (b.2 - a.2)) - s * dv (b.2 - a.2) ((b.1 - a.1) * (t : Nat)))) (b.2 - a.2).toNat := sumN_congr _ fun t ht => by
      unfold bnd
      rw [show a.2 + (t : Int) - a.2 = t by omega]
      rcases hs with rfl | rfl
      · simp
      · have e3 : ((b.1 - a.1) * (t : Int) - 1) / (b.2 - a.2) = ((b.1 - a.1) * (t : Int)) / (b.2 - a.2) - dv (b.2 - a.2) ((b.1 - a.1) * (t : Int)) := by
          generalize (b.1 - a.1) * (t : Int) = A
          generalize b.2 - a.2 = D at hD0
          have k1 := Int.mul_ediv_add_emod A D
          have k2 := Int.emod_nonneg A (Int.ne_of_gt hD0)
          have k3 := Int.emod_lt_of_pos A hD0
          have key : ∀ q r : Int, A - 1 = D * q + r → 0 ≤ r → r < D → (A - 1) / D = q := fun q r h hr hr2 => by
            rw [h, Int.add_comm, Int.add_mul_ediv_left _ _ (Int.ne_of_gt hD0), Int.ediv_eq_zero_of_lt hr hr2]; omega
          unfold dv
          split
          · next h0 => rw [key (A / D - 1) (D - 1) (by rw [Int.mul_sub, Int.mul_one]; omega) (by omega) (by omega)]
          · next h0 => rw [key (A / D) (A % D - 1) (by omega) (by omega) (by omega)]; omega
        rw [e3]; omega
    rw [e, sumN_plus (fun _ => a.1), sumN_const, sumN_minus, sumN_mulc, h2, hD]
    have e5 : (a.1 + b.1) * (b.2 - a.2) = 2 * (a.1 * (b.2 - a.2)) + (b.1 - a.1) * (b.2 - a.2) := by grind
    rcases hs with rfl | rfl
    · rw [e5]; omega
    · rw [e5]; omega

end Go.Proofs.Ytjmklbkcpjmcaaa.V
