import Derived.Test.YtdcipaaclpedhaaGreatXr15
import Derived.Test.YtdcipaaclpedhaaGreatXr16
import Derived.Test.YtdcipaaclpedhaaGreatXr20
/- A part of the proof: lemmas that later parts use. -/
set_option linter.unusedVariables false
set_option linter.unusedSimpArgs false
namespace Go.Proofs.YtdcipaaclpedhaaGreat.PA
open Go.RowKit Go.Proofs.YtdcipaaclpedhaaGreatW.PrintWords
def impl_ReducePair.f (a0_0 : ByteArray) (a0_1 : ByteArray) : Option (ByteArray × ByteArray × Bool) := (N.pairT a0_0 a0_1).map fun p => N.okP (N.red p)
theorem impl_ReducePair.calls (a0_0 : ByteArray) (a0_1 : ByteArray) (r1 : ByteArray) (r2 : ByteArray) (r3 : Bool) (w : World) (h : impl_ReducePair.f a0_0 a0_1 = some (r1, r2, r3)) :
    Calls Tryz.prog 44 #[.agg #[.string a0_0, .string a0_1]] w fun e w' => e = .returned (.tuple #[.agg #[.string r1, .string r2], .bool r3]) ∧ Below w.heap.size w w' := by
  unfold impl_ReducePair.f at h
  rcases N.pairT_cases a0_0 a0_1 with ⟨A, B, rfl, rfl, h1, h2, e⟩ | ⟨_, e⟩
  · rw [e] at h
    simp only [Option.map_some, Option.some.injEq, N.okP, Prod.mk.injEq] at h
    obtain ⟨rfl, rfl, rfl⟩ := h
    exact N.ReducePair_yes A B h1 h2 w
  · rw [e] at h; cases h
def impl_CaretsOf.f (a0 : ByteArray) : Option (Int × Bool) := (N.parseT a0).bind fun T => if T.carets ≤ 8 then some ((T.carets : Int), true) else none
theorem impl_CaretsOf.calls (a0 : ByteArray) (r1 : Int) (r2 : Bool) (w : World) (h : impl_CaretsOf.f a0 = some (r1, r2)) :
    Calls Tryz.prog 17 #[.string a0] w fun e w' => e = .returned (.tuple #[.int .i64 r1, .bool r2]) ∧ Below w.heap.size w w' := by
  unfold impl_CaretsOf.f at h
  cases e : N.parseT a0 with
  | none => rw [e] at h; cases h
  | some T =>
    rw [e] at h
    simp only [Option.bind_some] at h
    split at h
    · rename_i h8
      simp only [Option.some.injEq, Prod.mk.injEq] at h
      obtain ⟨rfl, rfl⟩ := h
      rw [N.parseT_some e]
      exact N.CaretsOf_yes T h8 w
    · cases h
def spec_prGood.f (a0_0 : ByteArray) (a0_1 : ByteArray) : Option (Bool) := some (N.pairT a0_0 a0_1).isSome
theorem spec_prGood.calls (a0_0 : ByteArray) (a0_1 : ByteArray) (r : Bool) (w : World) (h : spec_prGood.f a0_0 a0_1 = some r) :
    Calls Tryz.prog 27 #[.agg #[.string a0_0, .string a0_1]] w fun e w' => e = .returned (.bool r) ∧ Below w.heap.size w w' := by
  unfold spec_prGood.f at h
  rcases N.pairT_cases a0_0 a0_1 with ⟨A, B, rfl, rfl, h1, h2, e⟩ | ⟨g, e⟩
  · rw [e] at h; obtain rfl := Option.some.inj h; exact N.prGood_yes A B h1 h2 w
  · rw [e] at h; obtain rfl := Option.some.inj h; exact N.prGood_no _ _ g w
def spec_prUnit.f : Option (ByteArray × ByteArray) := some (N.tx .leaf, N.tx .leaf)
theorem spec_prUnit.calls (r1 : ByteArray) (r2 : ByteArray) (w : World) (h : spec_prUnit.f = some (r1, r2)) :
    Calls Tryz.prog 25 #[] w fun e w' => e = .returned (.agg #[.string r1, .string r2]) ∧ Below w.heap.size w w' := by
  simp only [spec_prUnit.f, Option.some.injEq, Prod.mk.injEq] at h
  obtain ⟨rfl, rfl⟩ := h
  exact N.prUnit_calls w
def spec_prTimes.f (a0_0 : ByteArray) (a0_1 : ByteArray) (a1_0 : ByteArray) (a1_1 : ByteArray) : Option (ByteArray × ByteArray) := match N.anyT 60 a0_0 a0_1, N.anyT 60 a1_0 a1_1 with
  | some p, some q => some (N.tx (N.mul p q).1, N.tx (N.mul p q).2)
  | _, _ => none
theorem spec_prTimes.calls (a0_0 : ByteArray) (a0_1 : ByteArray) (a1_0 : ByteArray) (a1_1 : ByteArray) (r1 : ByteArray) (r2 : ByteArray) (w : World) (h : spec_prTimes.f a0_0 a0_1 a1_0 a1_1 = some (r1, r2)) :
    Calls Tryz.prog 26 #[.agg #[.string a0_0, .string a0_1], .agg #[.string a1_0, .string a1_1]] w fun e w' => e = .returned (.agg #[.string r1, .string r2]) ∧ Below w.heap.size w w' := by
  unfold spec_prTimes.f at h
  split at h
  · rename_i p q e1 e2
    simp only [Option.some.injEq, Prod.mk.injEq] at h
    obtain ⟨rfl, rfl⟩ := h
    obtain ⟨rfl, rfl, h1, h2⟩ := N.anyT_some e1
    obtain ⟨rfl, rfl, h3, h4⟩ := N.anyT_some e2
    exact N.prTimes_calls p.1 p.2 q.1 q.2 h1 h3 h2 (by omega) w
  · cases h
def spec_prGenerator.f (a0 : Int) : Option (ByteArray × ByteArray) := if 0 ≤ a0 ∧ a0 < 900 then some (N.tx (N.gen a0.toNat).1, N.tx (N.gen a0.toNat).2) else none
theorem spec_prGenerator.calls (a0 : Int) (r1 : ByteArray) (r2 : ByteArray) (w : World) (h : spec_prGenerator.f a0 = some (r1, r2)) :
    Calls Tryz.prog 57 #[.int .i64 a0] w fun e w' => e = .returned (.agg #[.string r1, .string r2]) ∧ Below w.heap.size w w' := by
  unfold spec_prGenerator.f at h
  split at h
  · rename_i hi
    simp only [Option.some.injEq, Prod.mk.injEq] at h
    obtain ⟨rfl, rfl⟩ := h
    have := N.prGenerator_calls a0.toNat (by omega) w
    rw [show ((a0.toNat : Nat) : Int) = a0 by omega] at this
    exact this
  · cases h
def spec_trGraft.f (a0 : ByteArray) (a1 : Int) (a2 : ByteArray) : Option (ByteArray) := match N.parseT a0, N.parseT a2 with
  | some T, some O => if 0 ≤ a1 ∧ a1.toNat < T.carets + 1 ∧ T.carets < 1000 ∧ O.carets < 1000 then some (N.tx (N.graft T a1.toNat O)) else none
  | _, _ => none
theorem spec_trGraft.calls (a0 : ByteArray) (a1 : Int) (a2 : ByteArray) (r : ByteArray) (w : World) (h : spec_trGraft.f a0 a1 a2 = some r) :
    Calls Tryz.prog 74 #[.string a0, .int .i64 a1, .string a2] w fun e w' => e = .returned (.string r) ∧ Drawn0 w w' := by
  unfold spec_trGraft.f at h
  split at h
  · rename_i T O e1 e2
    split at h
    · rename_i hi
      obtain rfl := Option.some.inj h
      rw [N.parseT_some e1, N.parseT_some e2]
      have := N.trGraft_tree T O a1.toNat hi.2.2.1 hi.2.2.2 hi.2.1 w
      rw [show ((a1.toNat : Nat) : Int) = a1 by omega] at this
      refine this.mono ?_
      rintro e w' ⟨rfl, m, rfl⟩
      exact ⟨rfl, ⟨⟨m, rfl⟩⟩⟩
    · cases h
  · cases h
end Go.Proofs.YtdcipaaclpedhaaGreat.PA
