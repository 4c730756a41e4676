import Derived.BigRegion
import Derived.Deep.LoopGhost
import Derived.Test.YtdcipaaclpedhaaGreatXr5
/- A part of the proof: lemmas that later parts use. -/
set_option linter.unusedVariables false
set_option linter.unusedSimpArgs false
namespace Go.Proofs.YtdcipaaclpedhaaGreat.N
open Go.RowKit
theorem Own.take {w : World} {base : Nat} {e : TypeId} {A : Option Addr} {n c : Nat} {xs : List Value} (h : Own w base e (.slice A n c) xs) (k : Nat) (hk : k ≤ n) (hA : A ≠ none) : Own w base e (.slice A k c) (xs.take k) := by
  have hl : xs.length = n := by
    obtain ⟨A', c', e', _⟩ := h.reads
    injection e' with _ e2 _; exact e2.symm
  rcases h.2 with ⟨e1, _⟩ | ⟨g, cap, cur, e1, h1, h2, h3, h4, h5, h6⟩
  · injection e1 with e1 _ _; exact absurd e1 hA
  · injection e1 with e1 e2 e3
    subst e1 e3
    refine ⟨by simp [hl], .inr ⟨g, c, cur, by rw [List.length_take, hl, Nat.min_eq_left hk], h1, h2, by rw [List.length_take, hl]; omega, h4, h5, ?_⟩⟩
    have hle : k ≤ xs.length := by omega
    rw [List.length_take, Nat.min_eq_left hle, Nat.mul_one, ← h6, List.take_take, Nat.mul_one, Nat.min_eq_left hle]
end Go.Proofs.YtdcipaaclpedhaaGreat.N
