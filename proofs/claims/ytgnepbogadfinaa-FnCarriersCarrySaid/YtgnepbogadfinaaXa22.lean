import Derived.Test.YtgnepbogadfinaaXa8
import Derived.Test.YtgnepbogadfinaaXa13
import Derived.Test.YtgnepbogadfinaaXa17
/- A part of the proof: lemmas that later parts use. -/
set_option linter.unusedVariables false
set_option linter.unusedSimpArgs false
namespace Go.Proofs.Ytgnepbogadfinaa.PA
open Go.RowKit Go.Proofs.YtgnepbogadfinaaW.PrintWords
def impl_InversePair.f (a0_0 : ByteArray) (a0_1 : ByteArray) : Option (ByteArray × ByteArray × Bool) := (N.pairT a0_0 a0_1).map fun p => N.okP (N.inv p)
theorem impl_InversePair.calls (a0_0 : ByteArray) (a0_1 : ByteArray) (r1 : ByteArray) (r2 : ByteArray) (r3 : Bool) (w : World) (h : impl_InversePair.f a0_0 a0_1 = some (r1, r2, r3)) :
    Calls Try.prog 10 #[.agg #[.string a0_0, .string a0_1]] w fun e w' => e = .returned (.tuple #[.agg #[.string r1, .string r2], .bool r3]) ∧ Below w.heap.size w w' := by
  unfold impl_InversePair.f at h
  rcases N.pairT_cases a0_0 a0_1 with ⟨A, B, rfl, rfl, h1, h2, e⟩ | ⟨_, e⟩
  · rw [e] at h
    simp only [Option.map_some, Option.some.injEq, N.okP, N.inv, Prod.mk.injEq] at h
    obtain ⟨rfl, rfl, rfl⟩ := h
    exact N.InversePair_yes A B h1 h2 w
  · rw [e] at h; cases h
def spec_trGraft.f (a0 : ByteArray) (a1 : Int) (a2 : ByteArray) : Option (ByteArray) := match N.parseT a0, N.parseT a2 with
  | some T, some O => if 0 ≤ a1 ∧ a1.toNat < T.carets + 1 ∧ T.carets < 1000 ∧ O.carets < 1000 then some (N.tx (N.graft T a1.toNat O)) else none
  | _, _ => none
theorem spec_trGraft.calls (a0 : ByteArray) (a1 : Int) (a2 : ByteArray) (r : ByteArray) (w : World) (h : spec_trGraft.f a0 a1 a2 = some r) :
    Calls Try.prog 29 #[.string a0, .int .i64 a1, .string a2] w fun e w' => e = .returned (.string r) ∧ Drawn0 w w' := by
  unfold spec_trGraft.f at h
  split at h
  · rename_i T O e1 e2
    split at h
    · rename_i hi
      obtain rfl := Option.some.inj h
      rw [N.parseT_some e1, N.parseT_some e2]
      have := N.trGraft_tree T O a1.toNat hi.2.2.1 hi.2.2.2 hi.2.1 w
      rw [show ((a1.toNat : Nat) : Int) = a1 by omega] at this
      refine this.mono ?_
      rintro e w' ⟨rfl, m, rfl⟩
      exact ⟨rfl, ⟨⟨m, rfl⟩⟩⟩
    · cases h
  · cases h
end Go.Proofs.Ytgnepbogadfinaa.PA
