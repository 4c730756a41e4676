import Derived.Test.YtgnepbogadfinaaXa2
import Derived.Test.YtgnepbogadfinaaXa7
import Derived.Test.YtgnepbogadfinaaXa8
import Derived.Test.YtgnepbogadfinaaXa17
/- A part of the proof: lemmas that later parts use. -/
set_option linter.unusedVariables false
set_option linter.unusedSimpArgs false
namespace Go.Proofs.Ytgnepbogadfinaa.PA
open Go.RowKit Go.Proofs.YtgnepbogadfinaaW.PrintWords
def spec_trCarets.f (a0 : ByteArray) : Option (Int) := (N.parseT a0).bind fun T => if T.carets ≤ 1000 then some (T.carets : Int) else none
theorem spec_trCarets.calls (a0 : ByteArray) (r : Int) (w : World) (h : spec_trCarets.f a0 = some r) :
    Calls Try.prog 28 #[.string a0] w fun e w' => e = .returned (.int .i64 r) ∧ Drawn0 w w' := by
  unfold spec_trCarets.f at h
  cases e : N.parseT a0 with
  | none => rw [e] at h; cases h
  | some T =>
    rw [e, Option.bind_some] at h
    split at h
    · rename_i h5
      obtain rfl := Option.some.inj h
      rw [N.parseT_some e]
      have := N.trCarets_calls (N.tx T) (by rw [N.tx_size]; omega) w
      rw [show N.cnt (N.tx T).toList = T.carets from by rw [N.tx, N.S_toList]; exact N.cnt_txt T] at this
      refine this.mono ?_
      rintro e w' ⟨rfl, rfl⟩
      exact ⟨rfl, ⟨⟨0, rfl⟩⟩⟩
    · cases h
end Go.Proofs.Ytgnepbogadfinaa.PA
