import Derived.Test.YtijnadjgmmednaaXg12
import Derived.Test.YtijnadjgmmednaaXg24
/- A part of the proof: lemmas that later parts use. -/
set_option linter.unusedVariables false
set_option linter.unusedSimpArgs false
namespace Go.Proofs.Ytijnadjgmmednaa.N
open Go.RowKit Go.Proofs.YtijnadjgmmednaaW.PrintWords
def wayL : Nat → Tr → List Tr
  | 0, T => [T]
  | k + 1, T => (wayL k T).flatMap near0
theorem mem_wayL : ∀ {k : Nat} {T U : Tr}, U ∈ wayL k T ↔ Way k T U
  | 0, T, U => List.mem_singleton
  | k + 1, T, U => by
    simp only [wayL, List.mem_flatMap, Way]
    constructor
    · rintro ⟨M, h1, h2⟩; exact ⟨M, mem_wayL.1 h1, h2⟩
    · rintro ⟨M, h1, h2⟩; exact ⟨M, mem_wayL.2 h1, h2⟩
def distN (T U : Tr) : Nat := ((List.range 60).find? fun k => (wayL k T).any fun V => decide (tx V = tx U)).getD 0
theorem any_wayL {k : Nat} {T U : Tr} : ((wayL k T).any fun V => decide (tx V = tx U)) = true ↔ Way k T U := by
  rw [List.any_eq_true, ← mem_wayL]
  constructor
  · rintro ⟨V, h1, h2⟩; exact tx_inj (of_decide_eq_true h2) ▸ h1
  · intro h; exact ⟨U, h, decide_eq_true rfl⟩
theorem distN_eq {T U : Tr} {k : Nat} (h : Dist T U k) (hk : k < 60) : distN T U = k := by
  have : (List.range 60).find? (fun k => (wayL k T).any fun V => decide (tx V = tx U)) = some k := by
    rw [List.find?_range_eq_some]
    refine ⟨any_wayL.2 h.1, List.mem_range.2 hk, fun j hj => ?_⟩
    cases hb : ((wayL j T).any fun V => decide (tx V = tx U))
    · rfl
    · have := h.2 j (any_wayL.1 hb); omega
  unfold distN
  rw [this]; rfl
end Go.Proofs.Ytijnadjgmmednaa.N
