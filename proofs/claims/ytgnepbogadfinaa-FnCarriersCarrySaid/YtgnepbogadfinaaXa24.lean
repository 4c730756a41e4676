import Derived.Test.YtgnepbogadfinaaXa2
import Derived.Test.YtgnepbogadfinaaXa8
import Derived.Test.YtgnepbogadfinaaXa12
import Derived.Test.YtgnepbogadfinaaXa17
/- A part of the proof: lemmas that later parts use. -/
set_option linter.unusedVariables false
set_option linter.unusedSimpArgs false
namespace Go.Proofs.Ytgnepbogadfinaa.PA
open Go.RowKit Go.Proofs.YtgnepbogadfinaaW.PrintWords
def impl_IsReduced.f (a0_0 : ByteArray) (a0_1 : ByteArray) : Option (Bool × Bool) := (N.pairT a0_0 a0_1).map fun p => (decide (N.bothT p.1 p.2 = []), true)
theorem impl_IsReduced.calls (a0_0 : ByteArray) (a0_1 : ByteArray) (r1 : Bool) (r2 : Bool) (w : World) (h : impl_IsReduced.f a0_0 a0_1 = some (r1, r2)) :
    Calls Try.prog 11 #[.agg #[.string a0_0, .string a0_1]] w fun e w' => e = .returned (.tuple #[.bool r1, .bool r2]) ∧ Below w.heap.size w w' := by
  unfold impl_IsReduced.f at h
  rcases N.pairT_cases a0_0 a0_1 with ⟨A, B, rfl, rfl, h1, h2, e⟩ | ⟨g, e⟩
  · rw [e] at h
    simp only [Option.map_some, Option.some.injEq, Prod.mk.injEq] at h
    obtain ⟨rfl, rfl⟩ := h
    exact N.IsReduced_yes A B h1 h2 w
  · rw [e] at h; cases h
end Go.Proofs.Ytgnepbogadfinaa.PA
