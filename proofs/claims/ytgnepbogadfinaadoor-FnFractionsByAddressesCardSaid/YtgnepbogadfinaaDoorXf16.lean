import Derived.StillTactics
import Derived.Test.YtgnepbogadfinaaDoorXf12
/- A part of the proof: lemmas that later parts use. -/
set_option linter.unusedVariables false
set_option linter.unusedSimpArgs false
namespace Go.Proofs.YtgnepbogadfinaaDoor.N
open Go.RowKit
theorem plA_snoc (a : List UInt8) (c : UInt8) : plA (a ++ [c]) = plA a + if c = 49 then part (a.length + 1) else 0 := by
  unfold plA
  rw [List.length_append, List.length_singleton, plI, plI_append _ _ _ (Nat.le_refl _), List.getElem?_append_right (Nat.le_refl _), Nat.sub_self]
  simp
theorem plA_mod : ∀ (n : Nat) (a : List UInt8), a.length = n → n ≤ 40 → plA a % part n = 0
  | 0, a, h, _ => by
    rw [List.eq_nil_of_length_eq_zero h]; rfl
  | n + 1, a, h, hn => by
    have hne : a ≠ [] := fun e => by simp [e] at h
    rw [← List.dropLast_concat_getLast hne, plA_snoc]
    have hl : a.dropLast.length = n := by rw [List.length_dropLast, h]; rfl
    have := plA_mod n a.dropLast hl (by omega)
    rw [part_step (show n < 40 by omega)] at this
    have := Nat.mod_eq_zero_of_dvd (Nat.dvd_trans (Nat.dvd_mul_right _ 2) (Nat.dvd_of_mod_eq_zero this))
    split
    · rw [hl, Nat.add_mod_right]; exact this
    · exact this
def frT (p : Nat) (l : List (List UInt8)) : Nat := (l.filter fun a => decide (plA a < p)).length
end Go.Proofs.YtgnepbogadfinaaDoor.N
