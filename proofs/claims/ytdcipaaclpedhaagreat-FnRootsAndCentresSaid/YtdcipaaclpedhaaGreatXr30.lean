import Derived.Test.YtdcipaaclpedhaaGreatXr3
import Derived.Test.YtdcipaaclpedhaaGreatXr8
import Derived.Test.YtdcipaaclpedhaaGreatXr13
import Derived.Test.YtdcipaaclpedhaaGreatXr14
import Derived.Test.YtdcipaaclpedhaaGreatXr28
/- A part of the proof: lemmas that later parts use. -/
set_option linter.unusedVariables false
set_option linter.unusedSimpArgs false
namespace Go.Proofs.YtdcipaaclpedhaaGreat.PA
open Go.RowKit Go.Proofs.YtdcipaaclpedhaaGreatW.PrintWords
def impl_ProductPair.f (a0_0 : ByteArray) (a0_1 : ByteArray) (a1_0 : ByteArray) (a1_1 : ByteArray) : Option (ByteArray × ByteArray × Bool) := some (match N.pairT a0_0 a0_1, N.pairT a1_0 a1_1 with
  | some p, some q => N.ifF (N.mul p q)
  | _, _ => N.noP)
theorem impl_ProductPair.calls (a0_0 : ByteArray) (a0_1 : ByteArray) (a1_0 : ByteArray) (a1_1 : ByteArray) (r1 : ByteArray) (r2 : ByteArray) (r3 : Bool) (w : World) (h : impl_ProductPair.f a0_0 a0_1 a1_0 a1_1 = some (r1, r2, r3)) :
    Calls Tryz.prog 10 #[.agg #[.string a0_0, .string a0_1], .agg #[.string a1_0, .string a1_1]] w fun e w' => e = .returned (.tuple #[.agg #[.string r1, .string r2], .bool r3]) ∧ Below w.heap.size w w' := by
  unfold impl_ProductPair.f at h
  rcases N.pairT_cases a0_0 a0_1 with ⟨A, B, rfl, rfl, h1, h2, e⟩ | ⟨g, e⟩
  · rcases N.pairT_cases a1_0 a1_1 with ⟨C, D, rfl, rfl, h3, h4, e'⟩ | ⟨g, e'⟩
    · rw [e, e'] at h
      have h := Option.some.inj h
      have := N.ProductPair_yes A B C D h1 h2 h3 h4 w
      rw [N.ifP_vP] at this
      simp only at h
      rw [h] at this
      exact this
    · rw [e, e'] at h
      have h := Option.some.inj h
      simp only [N.noP, Prod.mk.injEq] at h
      obtain ⟨rfl, rfl, rfl⟩ := h
      exact N.ProductPair_no _ _ _ _ (fun hh => g hh.2) w
  · rw [e] at h
    have h := Option.some.inj h
    simp only [N.noP, Prod.mk.injEq] at h
    obtain ⟨rfl, rfl, rfl⟩ := h
    exact N.ProductPair_no _ _ _ _ (fun hh => g hh.1) w
end Go.Proofs.YtdcipaaclpedhaaGreat.PA
