import Derived.Test.YtijnadjgmmednaaXg4
import Derived.Test.YtijnadjgmmednaaXg12
import Derived.Test.YtijnadjgmmednaaXg28
import Derived.Test.YtijnadjgmmednaaXg31
/- A part of the proof: lemmas that later parts use. -/
set_option linter.unusedVariables false
set_option linter.unusedSimpArgs false
namespace Go.Proofs.Ytijnadjgmmednaa.PA
open Go.RowKit Go.Proofs.YtijnadjgmmednaaW.PrintWords
def impl_GeneratorPair.f (a0 : Int) : Option (ByteArray × ByteArray × Bool) := some (if 0 ≤ a0 ∧ a0 ≤ 6 then N.okP (N.gen a0.toNat) else N.noP)
theorem impl_GeneratorPair.calls (a0 : Int) (r1 : ByteArray) (r2 : ByteArray) (r3 : Bool) (w : World) (h : impl_GeneratorPair.f a0 = some (r1, r2, r3)) :
    Calls Try.prog 44 #[.int .i64 a0] w fun e w' => e = .returned (.tuple #[.agg #[.string r1, .string r2], .bool r3]) ∧ Below w.heap.size w w' := by
  unfold impl_GeneratorPair.f at h
  have h := Option.some.inj h
  split at h
  · rename_i hi
    simp only [N.okP, Prod.mk.injEq] at h
    obtain ⟨rfl, rfl, rfl⟩ := h
    have := N.GenP_yes a0.toNat (by omega) w
    rw [show ((a0.toNat : Nat) : Int) = a0 by omega] at this
    exact this
  · simp only [N.noP, Prod.mk.injEq] at h
    obtain ⟨rfl, rfl, rfl⟩ := h
    exact N.GenP_no a0 (by omega) w
def impl_IsReduced.f (a0_0 : ByteArray) (a0_1 : ByteArray) : Option (Bool × Bool) := (N.pairT a0_0 a0_1).map fun p => (decide (N.bothT p.1 p.2 = []), true)
theorem impl_IsReduced.calls (a0_0 : ByteArray) (a0_1 : ByteArray) (r1 : Bool) (r2 : Bool) (w : World) (h : impl_IsReduced.f a0_0 a0_1 = some (r1, r2)) :
    Calls Try.prog 29 #[.agg #[.string a0_0, .string a0_1]] w fun e w' => e = .returned (.tuple #[.bool r1, .bool r2]) ∧ Below w.heap.size w w' := by
  unfold impl_IsReduced.f at h
  rcases N.pairT_cases a0_0 a0_1 with ⟨A, B, rfl, rfl, h1, h2, e⟩ | ⟨g, e⟩
  · rw [e] at h
    simp only [Option.map_some, Option.some.injEq, Prod.mk.injEq] at h
    obtain ⟨rfl, rfl⟩ := h
    exact N.IsReduced_yes A B h1 h2 w
  · rw [e] at h; cases h
def impl_CountReduced.f (a0 : Int) : Option (Int × Bool) := some (if 0 ≤ a0 ∧ a0 ≤ 4 then (((N.prs a0.toNat).length : Nat), true) else (0, false))
theorem impl_CountReduced.calls (a0 : Int) (r1 : Int) (r2 : Bool) (w : World) (h : impl_CountReduced.f a0 = some (r1, r2)) :
    Calls Try.prog 47 #[.int .i64 a0] w fun e w' => e = .returned (.tuple #[.int .i64 r1, .bool r2]) ∧ Below w.heap.size w w' := by
  unfold impl_CountReduced.f at h
  have h := Option.some.inj h
  split at h
  · rename_i hi
    simp only [Prod.mk.injEq] at h
    obtain ⟨rfl, rfl⟩ := h
    have := N.implCR_yes a0.toNat (by omega) w
    rw [show ((a0.toNat : Nat) : Int) = a0 by omega] at this
    exact this
  · rename_i hi
    simp only [Prod.mk.injEq] at h
    obtain ⟨rfl, rfl⟩ := h
    exact N.implCR_no a0 hi w
def spec_CountReduced.f := impl_CountReduced.f
theorem spec_CountReduced.calls (a0 : Int) (r1 : Int) (r2 : Bool) (w : World) (h : spec_CountReduced.f a0 = some (r1, r2)) :
    Calls Try.prog 48 #[.int .i64 a0] w fun e w' => e = .returned (.tuple #[.int .i64 r1, .bool r2]) ∧ Below w.heap.size w w' := by
  unfold spec_CountReduced.f impl_CountReduced.f at h
  have h := Option.some.inj h
  split at h
  · rename_i hi
    simp only [Prod.mk.injEq] at h
    obtain ⟨rfl, rfl⟩ := h
    have := N.specCR_yes a0.toNat (by omega) w
    rw [show ((a0.toNat : Nat) : Int) = a0 by omega] at this
    exact this
  · rename_i hi
    simp only [Prod.mk.injEq] at h
    obtain ⟨rfl, rfl⟩ := h
    exact N.specCR_no a0 hi w
def impl_trees.f (a0 : Int) : Option (List ByteArray) := if 0 ≤ a0 ∧ a0 ≤ 8 then some ((N.TL a0.toNat).map N.tx) else none
theorem impl_trees.calls (a0 : Int) (r : List ByteArray) (w : World) (h : impl_trees.f a0 = some r) :
    Calls Try.prog 115 #[.int .i64 a0] w fun e w' => ∃ v0_ : Value, e = .returned (v0_) ∧ Kd.R Kd.string 9 w' w.heap.size (fun _ => True) v0_ r ∧ Below w.heap.size w w' := by
  unfold impl_trees.f at h
  split at h
  · rename_i hi
    obtain rfl := Option.some.inj h
    have := N.trees_calls8 a0.toNat (by omega) w
    rw [show ((a0.toNat : Nat) : Int) = a0 by omega] at this
    refine this.mono ?_
    rintro e w' ⟨v, rfl, ho, hx⟩
    exact ⟨v, rfl, N.kdR_of_ownS ho, hx⟩
  · cases h
end Go.Proofs.Ytijnadjgmmednaa.PA
