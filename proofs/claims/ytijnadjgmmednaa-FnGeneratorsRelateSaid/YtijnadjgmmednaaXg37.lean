import Derived.Test.YtijnadjgmmednaaXg4
import Derived.Test.YtijnadjgmmednaaXg17
import Derived.Test.YtijnadjgmmednaaXg20
import Derived.Test.YtijnadjgmmednaaXg21
import Derived.Test.YtijnadjgmmednaaXg31
import Derived.Test.YtijnadjgmmednaaXg32
import Derived.Test.YtijnadjgmmednaaXg34
/- A part of the proof: lemmas that later parts use. -/
set_option linter.unusedVariables false
set_option linter.unusedSimpArgs false
namespace Go.Proofs.Ytijnadjgmmednaa.PA
open Go.RowKit Go.Proofs.YtijnadjgmmednaaW.PrintWords
def impl_RotationDistance.f (a0 : ByteArray) (a1 : ByteArray) : Option (Int × Bool) := some (match N.anyT 5 a0 a1 with
  | some p => ((N.distN p.1 p.2 : Int), true)
  | none => (0, false))
theorem impl_RotationDistance.calls (a0 : ByteArray) (a1 : ByteArray) (r1 : Int) (r2 : Bool) (w : World) (h : impl_RotationDistance.f a0 a1 = some (r1, r2)) :
    Calls Try.prog 39 #[.string a0, .string a1] w fun e w' => e = .returned (.tuple #[.int .i64 r1, .bool r2]) ∧ Below w.heap.size w w' := by
  unfold impl_RotationDistance.f at h
  cases e : N.anyT 5 a0 a1 with
  | some p =>
    rw [e] at h
    simp only [Option.some.injEq, Prod.mk.injEq] at h
    obtain ⟨rfl, rfl⟩ := h
    obtain ⟨rfl, rfl, h1, h2⟩ := N.anyT_some e
    refine (N.RotationDistance_yes p.1 p.2 h1 h2 w).mono ?_
    rintro e w' ⟨k, rfl, hd, hx⟩
    have := N.distN_eq hd.out (by have h3 := N.dist_bound hd.out; have h4 := Nat.mul_le_mul (h1 ▸ h2 : p.1.carets ≤ 5) (h1 ▸ h2 : p.1.carets ≤ 5); omega)
    rw [this]
    exact ⟨rfl, hx⟩
  | none =>
    rw [e] at h
    simp only [Option.some.injEq, Prod.mk.injEq] at h
    obtain ⟨rfl, rfl⟩ := h
    exact N.RotationDistance_no a0 a1 (fun A B hA hB h1 h2 => by rw [hA, hB, N.anyT_yes h1 h2] at e; cases e) w
def spec_brNear.f (a0 : ByteArray) : Option (List ByteArray) := (N.parseT a0).bind fun T => if T.carets ≤ 50 then some (N.nearS T) else none
theorem spec_brNear.calls (a0 : ByteArray) (r : List ByteArray) (w : World) (h : spec_brNear.f a0 = some r) :
    Calls Try.prog 107 #[.string a0] w fun e w' => ∃ v0_ : Value, e = .returned (v0_) ∧ Kd.R Kd.string 9 w' w.heap.size (fun _ => True) v0_ r ∧ Below w.heap.size w w' := by
  unfold spec_brNear.f at h
  cases e : N.parseT a0 with
  | none => rw [e] at h; cases h
  | some T =>
    rw [e, Option.bind_some] at h
    split at h
    · rename_i h5
      obtain rfl := Option.some.inj h
      rw [N.parseT_some e]
      refine (N.brNear_calls T h5 w).mono ?_
      rintro e w' ⟨v, rfl, ho, hx⟩
      exact ⟨v, rfl, N.kdR_of_ownS ho, hx⟩
    · cases h
def spec_brBoth.f (a0 : ByteArray) (a1 : ByteArray) : Option (Bool) := some (N.pairT a0 a1).isSome
theorem spec_brBoth.calls (a0 : ByteArray) (a1 : ByteArray) (r : Bool) (w : World) (h : spec_brBoth.f a0 a1 = some r) :
    Calls Try.prog 99 #[.string a0, .string a1] w fun e w' => e = .returned (.bool r) ∧ Below w.heap.size w w' := by
  unfold spec_brBoth.f at h
  rcases N.pairT_cases a0 a1 with ⟨A, B, rfl, rfl, h1, h2, e⟩ | ⟨g, e⟩
  · rw [e] at h; obtain rfl := Option.some.inj h; exact N.brBoth_yes A B h1 h2 w
  · rw [e] at h; obtain rfl := Option.some.inj h; exact N.brBoth_no _ _ g w
def impl_ChainBetween.f (a0 : ByteArray) (a1 : ByteArray) : Option (List ByteArray × Bool) := some (match N.pairT a0 a1 with
  | some p => ((N.bet p.1 p.2).map N.tx, true)
  | none => ([], false))
theorem impl_ChainBetween.calls (a0 : ByteArray) (a1 : ByteArray) (r1 : List ByteArray) (r2 : Bool) (w : World) (h : impl_ChainBetween.f a0 a1 = some (r1, r2)) :
    Calls Try.prog 32 #[.string a0, .string a1] w fun e w' => ∃ v0_ : Value, e = .returned (.tuple #[v0_, .bool r2]) ∧ Kd.R Kd.string 9 w' w.heap.size (fun _ => True) v0_ r1 ∧ Below w.heap.size w w' := by
  unfold impl_ChainBetween.f at h
  rcases N.pairT_cases a0 a1 with ⟨A, B, rfl, rfl, h1, h2, e⟩ | ⟨g, e⟩
  · rw [e] at h
    simp only [Option.some.injEq, Prod.mk.injEq] at h
    obtain ⟨rfl, rfl⟩ := h
    refine (N.implBet_yes A B h1 h2 w).mono ?_
    rintro e w' ⟨v, rfl, ho, hx⟩
    exact ⟨v, rfl, N.kdR_of_ownS ho, hx⟩
  · rw [e] at h
    simp only [Option.some.injEq, Prod.mk.injEq] at h
    obtain ⟨rfl, rfl⟩ := h
    refine (N.implBet_no _ _ g w).mono ?_
    rintro e w' ⟨v, rfl, ho, hx⟩
    exact ⟨v, rfl, N.kdR_of_ownS ho, hx⟩
def spec_ChainBetween.f := impl_ChainBetween.f
theorem spec_ChainBetween.calls (a0 : ByteArray) (a1 : ByteArray) (r1 : List ByteArray) (r2 : Bool) (w : World) (h : spec_ChainBetween.f a0 a1 = some (r1, r2)) :
    Calls Try.prog 33 #[.string a0, .string a1] w fun e w' => ∃ v0_ : Value, e = .returned (.tuple #[v0_, .bool r2]) ∧ Kd.R Kd.string 9 w' w.heap.size (fun _ => True) v0_ r1 ∧ Below w.heap.size w w' := by
  unfold spec_ChainBetween.f impl_ChainBetween.f at h
  rcases N.pairT_cases a0 a1 with ⟨A, B, rfl, rfl, h1, h2, e⟩ | ⟨g, e⟩
  · rw [e] at h
    simp only [Option.some.injEq, Prod.mk.injEq] at h
    obtain ⟨rfl, rfl⟩ := h
    refine (N.specBet_yes A B h1 h2 w).mono ?_
    rintro e w' ⟨v, rfl, ho, hx⟩
    exact ⟨v, rfl, N.kdR_of_ownS ho, hx⟩
  · rw [e] at h
    simp only [Option.some.injEq, Prod.mk.injEq] at h
    obtain ⟨rfl, rfl⟩ := h
    refine (N.specBet_no _ _ g w).mono ?_
    rintro e w' ⟨v, rfl, ho, hx⟩
    exact ⟨v, rfl, N.kdR_of_ownS ho, hx⟩
def impl_NeighboursOf.f (a0 : ByteArray) : Option (List ByteArray × Bool) := (N.parseT a0).bind fun T => if T.carets ≤ 8 then some (N.nearS T, true) else none
theorem impl_NeighboursOf.calls (a0 : ByteArray) (r1 : List ByteArray) (r2 : Bool) (w : World) (h : impl_NeighboursOf.f a0 = some (r1, r2)) :
    Calls Try.prog 35 #[.string a0] w fun e w' => ∃ v0_ : Value, e = .returned (.tuple #[v0_, .bool r2]) ∧ Kd.R Kd.string 9 w' w.heap.size (fun _ => True) v0_ r1 ∧ Below w.heap.size w w' := by
  unfold impl_NeighboursOf.f at h
  cases e : N.parseT a0 with
  | none => rw [e] at h; cases h
  | some T =>
    rw [e, Option.bind_some] at h
    split at h
    · rename_i h8
      simp only [Option.some.injEq, Prod.mk.injEq] at h
      obtain ⟨rfl, rfl⟩ := h
      rw [N.parseT_some e]
      refine (N.implNear_yes T h8 w).mono ?_
      rintro e w' ⟨v, rfl, ho, hx⟩
      exact ⟨v, rfl, N.kdR_of_ownS ho, hx⟩
    · cases h
def impl_ProductPair.f (a0_0 : ByteArray) (a0_1 : ByteArray) (a1_0 : ByteArray) (a1_1 : ByteArray) : Option (ByteArray × ByteArray × Bool) := some (match N.pairT a0_0 a0_1, N.pairT a1_0 a1_1 with
  | some p, some q => N.ifF (N.mul p q)
  | _, _ => N.noP)
theorem impl_ProductPair.calls (a0_0 : ByteArray) (a0_1 : ByteArray) (a1_0 : ByteArray) (a1_1 : ByteArray) (r1 : ByteArray) (r2 : ByteArray) (r3 : Bool) (w : World) (h : impl_ProductPair.f a0_0 a0_1 a1_0 a1_1 = some (r1, r2, r3)) :
    Calls Try.prog 10 #[.agg #[.string a0_0, .string a0_1], .agg #[.string a1_0, .string a1_1]] w fun e w' => e = .returned (.tuple #[.agg #[.string r1, .string r2], .bool r3]) ∧ Below w.heap.size w w' := by
  unfold impl_ProductPair.f at h
  rcases N.pairT_cases a0_0 a0_1 with ⟨A, B, rfl, rfl, h1, h2, e⟩ | ⟨g, e⟩
  · rcases N.pairT_cases a1_0 a1_1 with ⟨C, D, rfl, rfl, h3, h4, e'⟩ | ⟨g, e'⟩
    · rw [e, e'] at h
      have h := Option.some.inj h
      have := N.ProductPair_yes A B C D h1 h2 h3 h4 w
      rw [N.ifP_vP] at this
      simp only at h
      rw [h] at this
      exact this
    · rw [e, e'] at h
      have h := Option.some.inj h
      simp only [N.noP, Prod.mk.injEq] at h
      obtain ⟨rfl, rfl, rfl⟩ := h
      exact N.ProductPair_no _ _ _ _ (fun hh => g hh.2) w
  · rw [e] at h
    have h := Option.some.inj h
    simp only [N.noP, Prod.mk.injEq] at h
    obtain ⟨rfl, rfl, rfl⟩ := h
    exact N.ProductPair_no _ _ _ _ (fun hh => g hh.1) w
def impl_AreSamePairs.f (a0_0 : ByteArray) (a0_1 : ByteArray) (a1_0 : ByteArray) (a1_1 : ByteArray) : Option (Bool × Bool) := (match N.pairT a0_0 a0_1, N.pairT a1_0 a1_1 with
  | some p, some q => some ((N.ptx (N.red p)).toList == (N.ptx (N.red q)).toList, true)
  | _, _ => none)
theorem impl_AreSamePairs.calls (a0_0 : ByteArray) (a0_1 : ByteArray) (a1_0 : ByteArray) (a1_1 : ByteArray) (r1 : Bool) (r2 : Bool) (w : World) (h : impl_AreSamePairs.f a0_0 a0_1 a1_0 a1_1 = some (r1, r2)) :
    Calls Try.prog 103 #[.agg #[.string a0_0, .string a0_1], .agg #[.string a1_0, .string a1_1]] w fun e w' => e = .returned (.tuple #[.bool r1, .bool r2]) ∧ Below w.heap.size w w' := by
  unfold impl_AreSamePairs.f at h
  rcases N.pairT_cases a0_0 a0_1 with ⟨A, B, rfl, rfl, h1, h2, e⟩ | ⟨g, e⟩
  · rcases N.pairT_cases a1_0 a1_1 with ⟨C, D, rfl, rfl, h3, h4, e'⟩ | ⟨g, e'⟩
    · rw [e, e'] at h
      simp only [Option.some.injEq, Prod.mk.injEq] at h
      obtain ⟨rfl, rfl⟩ := h
      exact N.AreSame_yes A B C D h1 h2 h3 h4 w
    · rw [e, e'] at h; cases h
  · rw [e] at h; cases h
def impl_RightComb.f (a0 : Int) : Option (ByteArray × Bool) := if 0 ≤ a0 ∧ a0 ≤ 8 then some (N.tx (N.comb a0.toNat), true) else none
theorem impl_RightComb.calls (a0 : Int) (r1 : ByteArray) (r2 : Bool) (w : World) (h : impl_RightComb.f a0 = some (r1, r2)) :
    Calls Try.prog 42 #[.int .i64 a0] w fun e w' => e = .returned (.tuple #[.string r1, .bool r2]) ∧ Below w.heap.size w w' := by
  unfold impl_RightComb.f at h
  split at h
  · rename_i hi
    simp only [Option.some.injEq, Prod.mk.injEq] at h
    obtain ⟨rfl, rfl⟩ := h
    have := N.RightComb_yes a0.toNat (by omega) w
    rw [show ((a0.toNat : Nat) : Int) = a0 by omega] at this
    exact this
  · cases h
def spec_trCarets.f (a0 : ByteArray) : Option (Int) := (N.parseT a0).bind fun T => if T.carets ≤ 1000 then some (T.carets : Int) else none
theorem spec_trCarets.calls (a0 : ByteArray) (r : Int) (w : World) (h : spec_trCarets.f a0 = some r) :
    Calls Try.prog 86 #[.string a0] w fun e w' => e = .returned (.int .i64 r) ∧ Drawn0 w w' := by
  unfold spec_trCarets.f at h
  cases e : N.parseT a0 with
  | none => rw [e] at h; cases h
  | some T =>
    rw [e, Option.bind_some] at h
    split at h
    · rename_i h5
      obtain rfl := Option.some.inj h
      rw [N.parseT_some e]
      have := N.trCarets_calls (N.tx T) (by rw [N.tx_size]; omega) w
      rw [show N.cnt (N.tx T).toList = T.carets from by rw [N.tx, N.S_toList]; exact N.cnt_txt T] at this
      refine this.mono ?_
      rintro e w' ⟨rfl, rfl⟩
      exact ⟨rfl, ⟨⟨0, rfl⟩⟩⟩
    · cases h
end Go.Proofs.Ytijnadjgmmednaa.PA
