import Derived.Test.YtijnadjgmmednaaXe2
import Derived.Test.YtijnadjgmmednaaXe9
import Derived.Test.YtijnadjgmmednaaXe10
import Derived.Test.YtijnadjgmmednaaXe11
import Derived.Test.YtijnadjgmmednaaXe29
/- A part of the proof: lemmas that later parts use. -/
set_option linter.unusedVariables false
set_option linter.unusedSimpArgs false
namespace Go.Proofs.Ytijnadjgmmednaa.PA
open Go.RowKit Go.Proofs.YtijnadjgmmednaaW.PrintWords
def impl_ProductPair.f (a0_0 : ByteArray) (a0_1 : ByteArray) (a1_0 : ByteArray) (a1_1 : ByteArray) : Option (ByteArray × ByteArray × Bool) := some (match N.pairT a0_0 a0_1, N.pairT a1_0 a1_1 with
  | some p, some q => N.ifF (N.mul p q)
  | _, _ => N.noP)
theorem impl_ProductPair.calls (a0_0 : ByteArray) (a0_1 : ByteArray) (a1_0 : ByteArray) (a1_1 : ByteArray) (r1 : ByteArray) (r2 : ByteArray) (r3 : Bool) (w : World) (h : impl_ProductPair.f a0_0 a0_1 a1_0 a1_1 = some (r1, r2, r3)) :
    Calls Try.prog 10 #[.agg #[.string a0_0, .string a0_1], .agg #[.string a1_0, .string a1_1]] w fun e w' => e = .returned (.tuple #[.agg #[.string r1, .string r2], .bool r3]) ∧ Below w.heap.size w w' := by
  unfold impl_ProductPair.f at h
  rcases N.pairT_cases a0_0 a0_1 with ⟨A, B, rfl, rfl, h1, h2, e⟩ | ⟨g, e⟩
  · rcases N.pairT_cases a1_0 a1_1 with ⟨C, D, rfl, rfl, h3, h4, e'⟩ | ⟨g, e'⟩
    · rw [e, e'] at h
      have h := Option.some.inj h
      have := N.ProductPair_yes A B C D h1 h2 h3 h4 w
      rw [N.ifP_vP] at this
      simp only at h
      rw [h] at this
      exact this
    · rw [e, e'] at h
      have h := Option.some.inj h
      simp only [N.noP, Prod.mk.injEq] at h
      obtain ⟨rfl, rfl, rfl⟩ := h
      exact N.ProductPair_no _ _ _ _ (fun hh => g hh.2) w
  · rw [e] at h
    have h := Option.some.inj h
    simp only [N.noP, Prod.mk.injEq] at h
    obtain ⟨rfl, rfl, rfl⟩ := h
    exact N.ProductPair_no _ _ _ _ (fun hh => g hh.1) w
def spec_trCarets.f (a0 : ByteArray) : Option (Int) := (N.parseT a0).bind fun T => if T.carets ≤ 1000 then some (T.carets : Int) else none
theorem spec_trCarets.calls (a0 : ByteArray) (r : Int) (w : World) (h : spec_trCarets.f a0 = some r) :
    Calls Try.prog 86 #[.string a0] w fun e w' => e = .returned (.int .i64 r) ∧ Drawn0 w w' := by
  unfold spec_trCarets.f at h
  cases e : N.parseT a0 with
  | none => rw [e] at h; cases h
  | some T =>
    rw [e, Option.bind_some] at h
    split at h
    · rename_i h5
      obtain rfl := Option.some.inj h
      rw [N.parseT_some e]
      have := N.trCarets_calls (N.tx T) (by rw [N.tx_size]; omega) w
      rw [show N.cnt (N.tx T).toList = T.carets from by rw [N.tx, N.S_toList]; exact N.cnt_txt T] at this
      refine this.mono ?_
      rintro e w' ⟨rfl, rfl⟩
      exact ⟨rfl, ⟨⟨0, rfl⟩⟩⟩
    · cases h
end Go.Proofs.Ytijnadjgmmednaa.PA
