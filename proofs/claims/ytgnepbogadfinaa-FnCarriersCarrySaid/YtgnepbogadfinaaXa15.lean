import Derived.Test.YtgnepbogadfinaaXa8
import Derived.Test.YtgnepbogadfinaaXa10
import Derived.Test.YtgnepbogadfinaaXa11
/- A part of the proof: lemmas that later parts use. -/
set_option linter.unusedVariables false
set_option linter.unusedSimpArgs false
namespace Go.Proofs.Ytgnepbogadfinaa.N
open Go.RowKit
theorem part_div {k : Nat} (h : k ≤ 40) : 1099511627776 / 2 ^ k = part k := by
  rw [← part_mul h, Nat.mul_div_cancel_left _ (Nat.two_pow_pos k)]
def FrOk (x : Nat × Nat) : Prop := goodB x.1 x.2 = true
theorem FrOk.form {x : Nat × Nat} (h : FrOk x) : ∃ k, k ≤ 10 ∧ x.2 = 2 ^ k ∧ x.1 ≤ 2 ^ k := by
  obtain ⟨m, k, h1, h2, h3, h4, _⟩ := goodB_true h
  exact ⟨k, h3, by exact_mod_cast h2, by omega⟩
theorem FrOk.small {x : Nat × Nat} (h : FrOk x) : x.2 ≤ 1024 := by
  obtain ⟨k, h1, h2, _⟩ := h.form
  rw [h2]; exact Nat.pow_le_pow_right (by omega) h1
end Go.Proofs.Ytgnepbogadfinaa.N
namespace Go.Proofs.Ytgnepbogadfinaa.N
def plc (x : Nat × Nat) : Nat := x.1 * (1099511627776 / x.2)
theorem FrOk.gap {x : Nat × Nat} (h : FrOk x) : plc x % 1073741824 = 0 := by
  obtain ⟨k, h1, h2, h3⟩ := h.form
  unfold plc
  rw [h2, part_div (by omega)]
  unfold part
  rw [show 40 - k = 30 + (10 - k) by omega, Nat.pow_add, ← Nat.mul_assoc, Nat.mul_right_comm]
  exact Nat.mul_mod_left _ _
end Go.Proofs.Ytgnepbogadfinaa.N
