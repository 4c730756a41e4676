import Derived.StillTactics
import Derived.Test.YtgnepbogadfinaaXa8
import Derived.Test.YtgnepbogadfinaaXa11
/- A part of the proof: lemmas that later parts use. -/
set_option linter.unusedVariables false
set_option linter.unusedSimpArgs false
namespace Go.Proofs.Ytgnepbogadfinaa.N
open Go.RowKit
theorem stF_iff (a : List UInt8) (ha : a.length ≤ 40) (m k : Nat) (hk : k ≤ 40) (ho : k = 0 ∨ m % 2 = 1) : ((sN a = m ∧ sD a = 2 ^ k) ↔ plA a = m * part k) := by
  have hP := sN_place a ha
  have hpm := part_mul hk
  have hpos : 0 < part k := by unfold part; exact Nat.two_pow_pos _
  constructor
  · rintro ⟨h1, h2⟩
    rw [h1, h2, ← hpm] at hP
    have h3 : plA a * 2 ^ k = (m * part k) * 2 ^ k := by rw [← hP]; rw [Nat.mul_comm (2 ^ k), Nat.mul_assoc]
    exact Nat.eq_of_mul_eq_mul_right (Nat.two_pow_pos k) h3
  · intro h
    rw [h, ← hpm] at hP
    have h3 : sN a * 2 ^ k = m * sD a := by
      have : (sN a * 2 ^ k) * part k = (m * sD a) * part k := by
        rw [Nat.mul_assoc, hP]; rw [Nat.mul_assoc, Nat.mul_assoc, Nat.mul_comm (part k)]
      exact Nat.eq_of_mul_eq_mul_right hpos this
    have hg : 0 < Nat.gcd (nbI a a.length) (2 ^ a.length) := Nat.gcd_pos_of_pos_right _ (Nat.two_pow_pos _)
    have c1 : Nat.Coprime (sN a) (sD a) := Nat.coprime_div_gcd_div_gcd hg
    have c2 : Nat.Coprime m (2 ^ k) := by
      rcases ho with rfl | ho
      · simp
      · refine Nat.Coprime.pow_right k ?_
        unfold Nat.Coprime
        have g1 := Nat.le_of_dvd (by omega) (Nat.gcd_dvd_right m 2)
        have g2 := Nat.gcd_dvd_left m 2
        have g3 : 0 < Nat.gcd m 2 := Nat.gcd_pos_of_pos_right _ (by omega)
        generalize Nat.gcd m 2 = g at *
        rcases (by omega : g = 1 ∨ g = 2) with rfl | rfl
        · rfl
        · omega
    have d1 : sD a ∣ 2 ^ k := c1.symm.dvd_of_dvd_mul_left (h3 ▸ Nat.dvd_mul_left _ _)
    have d2 : 2 ^ k ∣ sD a := c2.symm.dvd_of_dvd_mul_left (h3 ▸ Nat.dvd_mul_left _ _)
    have e := Nat.dvd_antisymm d1 d2
    refine ⟨?_, e⟩
    rw [e] at h3
    exact Nat.eq_of_mul_eq_mul_right (Nat.two_pow_pos k) h3
end Go.Proofs.Ytgnepbogadfinaa.N
