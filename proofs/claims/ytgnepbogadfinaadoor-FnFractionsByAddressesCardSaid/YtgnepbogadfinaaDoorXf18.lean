import Derived.Test.YtgnepbogadfinaaDoorXf14
import Derived.Test.YtgnepbogadfinaaDoorXf15
/- A part of the proof: lemmas that later parts use. -/
set_option linter.unusedVariables false
set_option linter.unusedSimpArgs false
namespace Go.Proofs.YtgnepbogadfinaaDoor.N
theorem low_eq {a b c d : Nat} (hb : 0 < b) (hd : 0 < d) (h : a * d = c * b) : a / Nat.gcd a b = c / Nat.gcd c d ∧ b / Nat.gcd a b = d / Nat.gcd c d := by
  have g1 := Nat.gcd_pos_of_pos_right a hb
  have g2 := Nat.gcd_pos_of_pos_right c hd
  have co1 : Nat.Coprime (a / Nat.gcd a b) (b / Nat.gcd a b) := Nat.coprime_div_gcd_div_gcd g1
  have co2 : Nat.Coprime (c / Nat.gcd c d) (d / Nat.gcd c d) := Nat.coprime_div_gcd_div_gcd g2
  have ea := Nat.div_mul_cancel (Nat.gcd_dvd_left a b)
  have eb := Nat.div_mul_cancel (Nat.gcd_dvd_right a b)
  have ec := Nat.div_mul_cancel (Nat.gcd_dvd_left c d)
  have ed := Nat.div_mul_cancel (Nat.gcd_dvd_right c d)
  have bp : 0 < b / Nat.gcd a b := Nat.div_pos (Nat.le_of_dvd hb (Nat.gcd_dvd_right a b)) g1
  have dp : 0 < d / Nat.gcd c d := Nat.div_pos (Nat.le_of_dvd hd (Nat.gcd_dvd_right c d)) g2
  generalize Nat.gcd a b = g at *
  generalize Nat.gcd c d = g' at *
  generalize a / g = a' at *
  generalize b / g = b' at *
  generalize c / g' = c' at *
  generalize d / g' = d' at *
  have h2 : a' * d' = c' * b' := by
    have : a' * d' * (g * g') = c' * b' * (g * g') := by
      have h := h
      rw [← ea, ← eb, ← ec, ← ed] at h
      rw [show a' * d' * (g * g') = a' * g * (d' * g') by simp only [Nat.mul_assoc, Nat.mul_comm, Nat.mul_left_comm], h]
      simp only [Nat.mul_assoc, Nat.mul_comm, Nat.mul_left_comm]
    exact Nat.eq_of_mul_eq_mul_right (Nat.mul_pos g1 g2) this
  have i1 : b' ∣ d' := co1.symm.dvd_of_dvd_mul_left (by rw [h2]; exact Nat.dvd_mul_left b' c')
  have i2 : d' ∣ b' := co2.symm.dvd_of_dvd_mul_left (by rw [← h2]; exact Nat.dvd_mul_left d' a')
  have e : b' = d' := Nat.dvd_antisymm i1 i2
  subst e
  exact ⟨Nat.eq_of_mul_eq_mul_right bp h2, rfl⟩
theorem halve_gcd : ∀ (f p : Nat), halve f p (2 ^ f) = (p / Nat.gcd p (2 ^ f), 2 ^ f / Nat.gcd p (2 ^ f))
  | 0, p => by simp [halve]
  | f + 1, p => by
    have h1 : 1 < 2 ^ (f + 1) := Nat.one_lt_two_pow (by omega)
    by_cases hp : p % 2 = 0
    · have e : p = 2 * (p / 2) := by omega
      have e2 : 2 ^ (f + 1) / 2 = 2 ^ f := by rw [Nat.pow_succ]; omega
      simp only [halve]
      rw [if_pos ⟨h1, hp⟩, e2, halve_gcd f (p / 2)]
      have eg : Nat.gcd p (2 ^ (f + 1)) = 2 * Nat.gcd (p / 2) (2 ^ f) := by
        rw [Nat.pow_succ, Nat.mul_comm (2 ^ f) 2]
        conv => lhs; rw [e]
        exact Nat.gcd_mul_left 2 _ _
      rw [eg]
      congr 1
      · rw [Nat.div_div_eq_div_mul]
      · rw [Nat.pow_succ, Nat.mul_comm (2 ^ f) 2, Nat.mul_div_mul_left _ _ (by omega)]
    · rw [halve_stop _ _ _ (fun h => hp h.2)]
      have hc : Nat.gcd p (2 ^ (f + 1)) = 1 := by
        have : Nat.Coprime p 2 := by
          show Nat.gcd p 2 = 1
          rw [Nat.gcd_comm, Nat.gcd_rec, show p % 2 = 1 by omega]; rfl
        exact Nat.Coprime.pow_right _ this
      rw [hc]; simp
theorem halve_good : ∀ (f p : Nat), p ≤ 2 ^ f → ∃ j, j ≤ f ∧ (halve f p (2 ^ f)).2 = 2 ^ j ∧ (halve f p (2 ^ f)).1 ≤ 2 ^ j ∧ (j = 0 ∨ (halve f p (2 ^ f)).1 % 2 = 1)
  | 0, p, h => ⟨0, Nat.le_refl _, rfl, h, .inl rfl⟩
  | f + 1, p, h => by
    have h1 : 1 < 2 ^ (f + 1) := Nat.one_lt_two_pow (by omega)
    by_cases hp : p % 2 = 0
    · have e2 : 2 ^ (f + 1) / 2 = 2 ^ f := by rw [Nat.pow_succ]; omega
      simp only [halve]
      rw [if_pos ⟨h1, hp⟩, e2]
      obtain ⟨j, h2, h3⟩ := halve_good f (p / 2) (by rw [Nat.pow_succ] at h; omega)
      exact ⟨j, by omega, h3⟩
    · rw [halve_stop _ _ _ (fun h => hp h.2)]
      exact ⟨f + 1, Nat.le_refl _, rfl, h, .inr (by simp only; omega)⟩
theorem goodB_halve (V : Nat) (h : V ≤ 1099511627776) : goodB ((halve 40 V 1099511627776).1 : Nat) ((halve 40 V 1099511627776).2 : Nat) = decide ((halve 40 V 1099511627776).2 ≤ 1024) := by
  obtain ⟨j, h1, h2, h3, h4⟩ := halve_good 40 V h
  rw [show (2 : Nat) ^ 40 = 1099511627776 from rfl] at h2 h3 h4
  generalize halve 40 V 1099511627776 = x at *
  obtain ⟨q, d⟩ := x
  simp only at h2 h3 h4 ⊢
  subst h2
  by_cases hd : 2 ^ j ≤ 1024
  · have hj : j ≤ 10 := by
      rcases Nat.lt_or_ge 10 j with hj | hj
      · have : 2 ^ 11 ≤ 2 ^ j := Nat.pow_le_pow_right (by omega) hj
        omega
      · exact hj
    have p1 : 1 ≤ 2 ^ j := Nat.one_le_two_pow
    rw [decide_eq_true hd, goodB_in p1 hd ((isP2_iff _).2 ⟨j, hj, rfl⟩) ⟨by omega, by omega⟩]
    rcases h4 with rfl | h4
    · simp
    · have : ((q : Int) % 2 == 1) = true := by rw [beq_iff_eq]; omega
      rw [this, Bool.or_true]
  · rw [decide_eq_false hd, goodB_far (by omega)]
end Go.Proofs.YtgnepbogadfinaaDoor.N
namespace Go.Proofs.YtgnepbogadfinaaDoor.N
open Go.RowKit
theorem part_div {k : Nat} (h : k ≤ 40) : 1099511627776 / 2 ^ k = part k := by
  rw [← part_mul h, Nat.mul_div_cancel_left _ (Nat.two_pow_pos k)]
def FrOk (x : Nat × Nat) : Prop := goodB x.1 x.2 = true
theorem FrOk.form {x : Nat × Nat} (h : FrOk x) : ∃ k, k ≤ 10 ∧ x.2 = 2 ^ k ∧ x.1 ≤ 2 ^ k := by
  obtain ⟨m, k, h1, h2, h3, h4, _⟩ := goodB_true h
  exact ⟨k, h3, by exact_mod_cast h2, by omega⟩
theorem FrOk.place {x : Nat × Nat} (h : FrOk x) : x.1 * (1099511627776 / x.2) ≤ 1099511627776 := by
  obtain ⟨k, h1, h2, h3⟩ := h.form
  rw [h2, part_div (by omega), ← part_mul (show k ≤ 40 by omega)]
  exact Nat.mul_le_mul_right _ h3
theorem FrOk.small {x : Nat × Nat} (h : FrOk x) : x.2 ≤ 1024 := by
  obtain ⟨k, h1, h2, _⟩ := h.form
  rw [h2]; exact Nat.pow_le_pow_right (by omega) h1
end Go.Proofs.YtgnepbogadfinaaDoor.N
namespace Go.Proofs.YtgnepbogadfinaaDoor.N
def plc (x : Nat × Nat) : Nat := x.1 * (1099511627776 / x.2)
theorem halve_place (V : Nat) : ∀ (f p j : Nat), j ≤ 40 → p * 2 ^ (40 - j) = V → plc (halve f p (2 ^ j)) = V
  | 0, p, j, hj, h => by
    unfold plc halve
    rw [part_div hj]; exact h
  | f + 1, p, j, hj, h => by
    unfold halve
    by_cases hc : 1 < 2 ^ j ∧ p % 2 = 0
    · rw [if_pos hc]
      obtain ⟨i, rfl⟩ : ∃ i, j = i + 1 := by
        cases j with
        | zero => simp at hc
        | succ i => exact ⟨i, rfl⟩
      rw [show 2 ^ (i + 1) / 2 = 2 ^ i by rw [Nat.pow_succ]; exact Nat.mul_div_cancel _ (by omega)]
      refine halve_place V f (p / 2) i (by omega) ?_
      rw [← h, show 40 - i = (40 - (i + 1)) + 1 by omega, Nat.pow_succ]
      have : p / 2 * 2 = p := by omega
      rw [Nat.mul_comm (2 ^ (40 - (i + 1))) 2, ← Nat.mul_assoc, this]
    · rw [if_neg hc]
      unfold plc
      rw [part_div hj]; exact h
theorem FrOk.gap {x : Nat × Nat} (h : FrOk x) : plc x % 1073741824 = 0 := by
  obtain ⟨k, h1, h2, h3⟩ := h.form
  unfold plc
  rw [h2, part_div (by omega)]
  unfold part
  rw [show 40 - k = 30 + (10 - k) by omega, Nat.pow_add, ← Nat.mul_assoc, Nat.mul_right_comm]
  exact Nat.mul_mod_left _ _
theorem less_plc {x y : Nat × Nat} (hx : FrOk x) (hy : FrOk y) : (x.1 * y.2 < y.1 * x.2) ↔ plc x < plc y := by
  obtain ⟨k, h1, h2, h3⟩ := hx.form
  obtain ⟨i, g1, g2, g3⟩ := hy.form
  unfold plc
  rw [h2, g2, part_div (by omega), part_div (by omega)]
  have e1 : x.1 * part k = (x.1 * 2 ^ i) * 2 ^ (40 - k - i) := by unfold part; rw [Nat.mul_assoc, ← Nat.pow_add]; congr 2; omega
  have e2 : y.1 * part i = (y.1 * 2 ^ k) * 2 ^ (40 - k - i) := by unfold part; rw [Nat.mul_assoc, ← Nat.pow_add]; congr 2; omega
  rw [e1, e2]
  exact (Nat.mul_lt_mul_right (Nat.two_pow_pos _)).symm
end Go.Proofs.YtgnepbogadfinaaDoor.N
