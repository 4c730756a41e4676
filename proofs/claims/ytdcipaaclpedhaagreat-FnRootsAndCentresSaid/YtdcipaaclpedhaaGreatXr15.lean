import Derived.OwnWalk
import Derived.Test.YtdcipaaclpedhaaGreatXr13
/- A part of the proof: lemmas that later parts use. -/
set_option linter.unusedVariables false
set_option linter.unusedSimpArgs false
namespace Go.Proofs.YtdcipaaclpedhaaGreat.N
open Go.RowKit
def SevL (xs : List Int) : Prop := ∀ x ∈ xs, x ≠ 0 ∧ -7 ≤ x ∧ x ≤ 7
def WordL (xs : List Int) : Prop := ∀ x ∈ xs, x ≠ 0 ∧ -21 ≤ x ∧ x ≤ 21
instance (xs : List Int) : Decidable (SevL xs) := by unfold SevL; infer_instance
instance (xs : List Int) : Decidable (WordL xs) := by unfold WordL; infer_instance
end Go.Proofs.YtdcipaaclpedhaaGreat.N
namespace Go.Proofs.YtdcipaaclpedhaaGreat.N
theorem act_self (F : Tr) (s : Str) : act (F, F) s = s := adr_find F s
def Rep2 (p : Tr × Tr) (m : Nat) : Prop := ∃ A l a b, Bal (A, .node l (.node a b)) ∧ (Tr.node l (.node a b)).carets ≤ m ∧ ∀ s, act (A, .node l (.node a b)) s = act p s
theorem Rep2.one : Rep2 one 2 := ⟨.node .leaf (.node .leaf .leaf), .leaf, .leaf, .leaf, rfl, by decide, fun s => by rw [act_self]; exact (act_one s).symm⟩
theorem Rep2.of {p : Tr × Tr} {q : Tr × Tr} {m : Nat} (hq : Bal q) (hs : ∃ l a b, q.2 = .node l (.node a b)) (hc : q.2.carets ≤ m) (ha : ∀ s, act q s = act p s) : Rep2 p m := by
  obtain ⟨l, a, b, e⟩ := hs
  refine ⟨q.1, l, a, b, ?_, ?_, ?_⟩
  · rw [← e]; exact hq
  · rw [← e]; exact hc
  · rw [← e]; exact ha
theorem Rep2.carets {p : Tr × Tr} {m : Nat} (h : Rep2 p m) (hp : Bal p) (hr : bothT p.1 p.2 = []) : p.1.carets ≤ m := by
  obtain ⟨A, l, a, b, hb, hc, ha⟩ := h
  have e : red (A, .node l (.node a b)) = p := by rw [red_ext hb hp ha, red_nil hr]
  have := (red_le (A, .node l (.node a b))).1
  rw [e] at this
  unfold Bal at hb
  simp only at this hb
  omega
end Go.Proofs.YtdcipaaclpedhaaGreat.N
