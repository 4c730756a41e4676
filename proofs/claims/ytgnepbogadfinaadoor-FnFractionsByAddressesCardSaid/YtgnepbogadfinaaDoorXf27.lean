import Derived.Test.YtgnepbogadfinaaDoorXf19
import Derived.Test.YtgnepbogadfinaaDoorXf21
/- A part of the proof: lemmas that later parts use. -/
set_option linter.unusedVariables false
set_option linter.unusedSimpArgs false
namespace Go.Proofs.YtgnepbogadfinaaDoor.PA
open Go.RowKit Go.Proofs.YtgnepbogadfinaaDoorW.PrintWords
def spec_trGraft.f (a0 : ByteArray) (a1 : Int) (a2 : ByteArray) : Option (ByteArray) := match N.parseT a0, N.parseT a2 with
  | some T, some O => if 0 ≤ a1 ∧ a1.toNat < T.carets + 1 ∧ T.carets < 1000 ∧ O.carets < 1000 then some (N.tx (N.graft T a1.toNat O)) else none
  | _, _ => none
theorem spec_trGraft.calls (a0 : ByteArray) (a1 : Int) (a2 : ByteArray) (r : ByteArray) (w : World) (h : spec_trGraft.f a0 a1 a2 = some r) :
    Calls Tryd.prog 115 #[.string a0, .int .i64 a1, .string a2] w fun e w' => e = .returned (.string r) ∧ Drawn0 w w' := by
  unfold spec_trGraft.f at h
  split at h
  · rename_i T O e1 e2
    split at h
    · rename_i hi
      obtain rfl := Option.some.inj h
      rw [N.parseT_some e1, N.parseT_some e2]
      have := N.trGraft_tree T O a1.toNat hi.2.2.1 hi.2.2.2 hi.2.1 w
      rw [show ((a1.toNat : Nat) : Int) = a1 by omega] at this
      refine this.mono ?_
      rintro e w' ⟨rfl, m, rfl⟩
      exact ⟨rfl, ⟨⟨m, rfl⟩⟩⟩
    · cases h
  · cases h
end Go.Proofs.YtgnepbogadfinaaDoor.PA
