import Derived.Test.YtdcipaaclpedhaaGreatXr3
import Derived.Test.YtdcipaaclpedhaaGreatXr20
import Derived.Test.YtdcipaaclpedhaaGreatXr23
/- A part of the proof: lemmas that later parts use. -/
set_option linter.unusedVariables false
set_option linter.unusedSimpArgs false
namespace Go.Proofs.YtdcipaaclpedhaaGreat.PA
open Go.RowKit Go.Proofs.YtdcipaaclpedhaaGreatW.PrintWords
def impl_CountReduced.f (a0 : Int) : Option (Int × Bool) := some (if 0 ≤ a0 ∧ a0 ≤ 4 then (((N.prs a0.toNat).length : Nat), true) else (0, false))
theorem impl_CountReduced.calls (a0 : Int) (r1 : Int) (r2 : Bool) (w : World) (h : impl_CountReduced.f a0 = some (r1, r2)) :
    Calls Tryz.prog 21 #[.int .i64 a0] w fun e w' => e = .returned (.tuple #[.int .i64 r1, .bool r2]) ∧ Below w.heap.size w w' := by
  unfold impl_CountReduced.f at h
  have h := Option.some.inj h
  split at h
  · rename_i hi
    simp only [Prod.mk.injEq] at h
    obtain ⟨rfl, rfl⟩ := h
    have := N.implCR_yes a0.toNat (by omega) w
    rw [show ((a0.toNat : Nat) : Int) = a0 by omega] at this
    exact this
  · rename_i hi
    simp only [Prod.mk.injEq] at h
    obtain ⟨rfl, rfl⟩ := h
    exact N.implCR_no a0 hi w
end Go.Proofs.YtdcipaaclpedhaaGreat.PA
