import Derived.Test.YtijnadjgmmednaaGreatZc12
import Derived.Test.YtijnadjgmmednaaGreatZc13
import Derived.Test.YtijnadjgmmednaaGreatZc14
import Derived.Test.YtijnadjgmmednaaGreatZc20
/- A part of the proof: lemmas that later parts use. -/
set_option linter.unusedVariables false
set_option linter.unusedSimpArgs false
namespace Go.Proofs.YtijnadjgmmednaaGreat.PA
open Go.RowKit Go.Proofs.YtijnadjgmmednaaGreatW.PrintWords
def impl_ReducePair.f (a0_0 : ByteArray) (a0_1 : ByteArray) : Option (ByteArray × ByteArray × Bool) := (N.pairT a0_0 a0_1).map fun p => N.okP (N.red p)
theorem impl_ReducePair.calls (a0_0 : ByteArray) (a0_1 : ByteArray) (r1 : ByteArray) (r2 : ByteArray) (r3 : Bool) (w : World) (h : impl_ReducePair.f a0_0 a0_1 = some (r1, r2, r3)) :
    Calls Tryz.prog 45 #[.agg #[.string a0_0, .string a0_1]] w fun e w' => e = .returned (.tuple #[.agg #[.string r1, .string r2], .bool r3]) ∧ Below w.heap.size w w' := by
  unfold impl_ReducePair.f at h
  rcases N.pairT_cases a0_0 a0_1 with ⟨A, B, rfl, rfl, h1, h2, e⟩ | ⟨_, e⟩
  · rw [e] at h
    simp only [Option.map_some, Option.some.injEq, N.okP, Prod.mk.injEq] at h
    obtain ⟨rfl, rfl, rfl⟩ := h
    exact N.ReducePair_yes A B h1 h2 w
  · rw [e] at h; cases h
def impl_InversePair.f (a0_0 : ByteArray) (a0_1 : ByteArray) : Option (ByteArray × ByteArray × Bool) := (N.pairT a0_0 a0_1).map fun p => N.okP (N.inv p)
theorem impl_InversePair.calls (a0_0 : ByteArray) (a0_1 : ByteArray) (r1 : ByteArray) (r2 : ByteArray) (r3 : Bool) (w : World) (h : impl_InversePair.f a0_0 a0_1 = some (r1, r2, r3)) :
    Calls Tryz.prog 17 #[.agg #[.string a0_0, .string a0_1]] w fun e w' => e = .returned (.tuple #[.agg #[.string r1, .string r2], .bool r3]) ∧ Below w.heap.size w w' := by
  unfold impl_InversePair.f at h
  rcases N.pairT_cases a0_0 a0_1 with ⟨A, B, rfl, rfl, h1, h2, e⟩ | ⟨_, e⟩
  · rw [e] at h
    simp only [Option.map_some, Option.some.injEq, N.okP, N.inv, Prod.mk.injEq] at h
    obtain ⟨rfl, rfl, rfl⟩ := h
    exact N.InversePair_yes A B h1 h2 w
  · rw [e] at h; cases h
def impl_SumsOfPair.f (a0_0 : ByteArray) (a0_1 : ByteArray) : Option (Int × Int × Bool) := some (match N.pairT a0_0 a0_1 with
  | some p => ((N.sumW (N.wordP (N.red p))).1, (N.sumW (N.wordP (N.red p))).2, true)
  | none => (0, 0, false))
theorem impl_SumsOfPair.calls (a0_0 : ByteArray) (a0_1 : ByteArray) (r1 : Int) (r2 : Int) (r3 : Bool) (w : World) (h : impl_SumsOfPair.f a0_0 a0_1 = some (r1, r2, r3)) :
    Calls Tryz.prog 13 #[.agg #[.string a0_0, .string a0_1]] w fun e w' => e = .returned (.tuple #[.int .i64 r1, .int .i64 r2, .bool r3]) ∧ Below w.heap.size w w' := by
  unfold impl_SumsOfPair.f at h
  rcases N.pairT_cases a0_0 a0_1 with ⟨A, B, rfl, rfl, h1, h2, e⟩ | ⟨g, e⟩
  · rw [e] at h
    simp only [Option.some.injEq, Prod.mk.injEq] at h
    obtain ⟨rfl, rfl, rfl⟩ := h
    exact N.implSums_yes A B h1 h2 w
  · rw [e] at h
    simp only [Option.some.injEq, Prod.mk.injEq] at h
    obtain ⟨rfl, rfl, rfl⟩ := h
    exact N.implSums_no _ _ g w
def impl_ConjugatePair.f (a0_0 : ByteArray) (a0_1 : ByteArray) (a1_0 : ByteArray) (a1_1 : ByteArray) : Option (ByteArray × ByteArray × Bool) := some (match N.pairT a0_0 a0_1, N.pairT a1_0 a1_1 with
  | some p, some q => N.ifF (N.conj p q)
  | _, _ => N.noP)
theorem impl_ConjugatePair.calls (a0_0 : ByteArray) (a0_1 : ByteArray) (a1_0 : ByteArray) (a1_1 : ByteArray) (r1 : ByteArray) (r2 : ByteArray) (r3 : Bool) (w : World) (h : impl_ConjugatePair.f a0_0 a0_1 a1_0 a1_1 = some (r1, r2, r3)) :
    Calls Tryz.prog 12 #[.agg #[.string a0_0, .string a0_1], .agg #[.string a1_0, .string a1_1]] w fun e w' => e = .returned (.tuple #[.agg #[.string r1, .string r2], .bool r3]) ∧ Below w.heap.size w w' := by
  unfold impl_ConjugatePair.f at h
  rcases N.pairT_cases a0_0 a0_1 with ⟨A, B, rfl, rfl, h1, h2, e⟩ | ⟨g, e⟩
  · rcases N.pairT_cases a1_0 a1_1 with ⟨C, D, rfl, rfl, h3, h4, e'⟩ | ⟨g, e'⟩
    · rw [e, e'] at h
      have h := Option.some.inj h
      have := N.ConjugatePair_yes A B C D h1 h2 h3 h4 w
      rw [N.ifP_vP] at this
      simp only at h
      rw [h] at this
      exact this
    · rw [e, e'] at h
      have h := Option.some.inj h
      simp only [N.noP, Prod.mk.injEq] at h
      obtain ⟨rfl, rfl, rfl⟩ := h
      exact N.ConjugatePair_no _ _ _ _ (fun hh => g hh.2) w
  · rw [e] at h
    have h := Option.some.inj h
    simp only [N.noP, Prod.mk.injEq] at h
    obtain ⟨rfl, rfl, rfl⟩ := h
    exact N.ConjugatePair_no _ _ _ _ (fun hh => g hh.1) w
def spec_ConjugatePair.f := impl_ConjugatePair.f
theorem spec_ConjugatePair.calls (a0_0 : ByteArray) (a0_1 : ByteArray) (a1_0 : ByteArray) (a1_1 : ByteArray) (r1 : ByteArray) (r2 : ByteArray) (r3 : Bool) (w : World) (h : spec_ConjugatePair.f a0_0 a0_1 a1_0 a1_1 = some (r1, r2, r3)) :
    Calls Tryz.prog 16 #[.agg #[.string a0_0, .string a0_1], .agg #[.string a1_0, .string a1_1]] w fun e w' => e = .returned (.tuple #[.agg #[.string r1, .string r2], .bool r3]) ∧ Below w.heap.size w w' := by
  unfold spec_ConjugatePair.f impl_ConjugatePair.f at h
  rcases N.pairT_cases a0_0 a0_1 with ⟨A, B, rfl, rfl, h1, h2, e⟩ | ⟨g, e⟩
  · rcases N.pairT_cases a1_0 a1_1 with ⟨C, D, rfl, rfl, h3, h4, e'⟩ | ⟨g, e'⟩
    · rw [e, e'] at h
      have h := Option.some.inj h
      have := N.specConjugatePair_yes A B C D h1 h2 h3 h4 w
      rw [N.ifP_vP] at this
      simp only at h
      rw [h] at this
      exact this
    · rw [e, e'] at h
      have h := Option.some.inj h
      simp only [N.noP, Prod.mk.injEq] at h
      obtain ⟨rfl, rfl, rfl⟩ := h
      exact N.specConjugatePair_no _ _ _ _ (fun hh => g hh.2) w
  · rw [e] at h
    have h := Option.some.inj h
    simp only [N.noP, Prod.mk.injEq] at h
    obtain ⟨rfl, rfl, rfl⟩ := h
    exact N.specConjugatePair_no _ _ _ _ (fun hh => g hh.1) w
def impl_CaretsOf.f (a0 : ByteArray) : Option (Int × Bool) := (N.parseT a0).bind fun T => if T.carets ≤ 8 then some ((T.carets : Int), true) else none
theorem impl_CaretsOf.calls (a0 : ByteArray) (r1 : Int) (r2 : Bool) (w : World) (h : impl_CaretsOf.f a0 = some (r1, r2)) :
    Calls Tryz.prog 24 #[.string a0] w fun e w' => e = .returned (.tuple #[.int .i64 r1, .bool r2]) ∧ Below w.heap.size w w' := by
  unfold impl_CaretsOf.f at h
  cases e : N.parseT a0 with
  | none => rw [e] at h; cases h
  | some T =>
    rw [e] at h
    simp only [Option.bind_some] at h
    split at h
    · rename_i h8
      simp only [Option.some.injEq, Prod.mk.injEq] at h
      obtain ⟨rfl, rfl⟩ := h
      rw [N.parseT_some e]
      exact N.CaretsOf_yes T h8 w
    · cases h
def spec_prGood.f (a0_0 : ByteArray) (a0_1 : ByteArray) : Option (Bool) := some (N.pairT a0_0 a0_1).isSome
theorem spec_prGood.calls (a0_0 : ByteArray) (a0_1 : ByteArray) (r : Bool) (w : World) (h : spec_prGood.f a0_0 a0_1 = some r) :
    Calls Tryz.prog 27 #[.agg #[.string a0_0, .string a0_1]] w fun e w' => e = .returned (.bool r) ∧ Below w.heap.size w w' := by
  unfold spec_prGood.f at h
  rcases N.pairT_cases a0_0 a0_1 with ⟨A, B, rfl, rfl, h1, h2, e⟩ | ⟨g, e⟩
  · rw [e] at h; obtain rfl := Option.some.inj h; exact N.prGood_yes A B h1 h2 w
  · rw [e] at h; obtain rfl := Option.some.inj h; exact N.prGood_no _ _ g w
def spec_prUnit.f : Option (ByteArray × ByteArray) := some (N.tx .leaf, N.tx .leaf)
theorem spec_prUnit.calls (r1 : ByteArray) (r2 : ByteArray) (w : World) (h : spec_prUnit.f = some (r1, r2)) :
    Calls Tryz.prog 72 #[] w fun e w' => e = .returned (.agg #[.string r1, .string r2]) ∧ Below w.heap.size w w' := by
  simp only [spec_prUnit.f, Option.some.injEq, Prod.mk.injEq] at h
  obtain ⟨rfl, rfl⟩ := h
  exact N.prUnit_calls w
def spec_prTimes.f (a0_0 : ByteArray) (a0_1 : ByteArray) (a1_0 : ByteArray) (a1_1 : ByteArray) : Option (ByteArray × ByteArray) := match N.anyT 60 a0_0 a0_1, N.anyT 60 a1_0 a1_1 with
  | some p, some q => some (N.tx (N.mul p q).1, N.tx (N.mul p q).2)
  | _, _ => none
theorem spec_prTimes.calls (a0_0 : ByteArray) (a0_1 : ByteArray) (a1_0 : ByteArray) (a1_1 : ByteArray) (r1 : ByteArray) (r2 : ByteArray) (w : World) (h : spec_prTimes.f a0_0 a0_1 a1_0 a1_1 = some (r1, r2)) :
    Calls Tryz.prog 70 #[.agg #[.string a0_0, .string a0_1], .agg #[.string a1_0, .string a1_1]] w fun e w' => e = .returned (.agg #[.string r1, .string r2]) ∧ Below w.heap.size w w' := by
  unfold spec_prTimes.f at h
  split at h
  · rename_i p q e1 e2
    simp only [Option.some.injEq, Prod.mk.injEq] at h
    obtain ⟨rfl, rfl⟩ := h
    obtain ⟨rfl, rfl, h1, h2⟩ := N.anyT_some e1
    obtain ⟨rfl, rfl, h3, h4⟩ := N.anyT_some e2
    exact N.prTimes_calls p.1 p.2 q.1 q.2 h1 h3 h2 (by omega) w
  · cases h
def spec_cjBy.f (a0_0 : ByteArray) (a0_1 : ByteArray) (a1_0 : ByteArray) (a1_1 : ByteArray) : Option (ByteArray × ByteArray) := match N.anyT 20 a0_0 a0_1, N.anyT 20 a1_0 a1_1 with
  | some p, some q => some (N.tx (N.conj p q).1, N.tx (N.conj p q).2)
  | _, _ => none
theorem spec_cjBy.calls (a0_0 : ByteArray) (a0_1 : ByteArray) (a1_0 : ByteArray) (a1_1 : ByteArray) (r1 : ByteArray) (r2 : ByteArray) (w : World) (h : spec_cjBy.f a0_0 a0_1 a1_0 a1_1 = some (r1, r2)) :
    Calls Tryz.prog 29 #[.agg #[.string a0_0, .string a0_1], .agg #[.string a1_0, .string a1_1]] w fun e w' => e = .returned (.agg #[.string r1, .string r2]) ∧ Below w.heap.size w w' := by
  unfold spec_cjBy.f at h
  split at h
  · rename_i p q e1 e2
    simp only [Option.some.injEq, Prod.mk.injEq] at h
    obtain ⟨rfl, rfl⟩ := h
    obtain ⟨rfl, rfl, h1, h2⟩ := N.anyT_some e1
    obtain ⟨rfl, rfl, h3, h4⟩ := N.anyT_some e2
    exact N.cjBy_calls p.1 p.2 q.1 q.2 h1 h3 (by omega) w
  · cases h
def spec_prGenerator.f (a0 : Int) : Option (ByteArray × ByteArray) := if 0 ≤ a0 ∧ a0 < 900 then some (N.tx (N.gen a0.toNat).1, N.tx (N.gen a0.toNat).2) else none
theorem spec_prGenerator.calls (a0 : Int) (r1 : ByteArray) (r2 : ByteArray) (w : World) (h : spec_prGenerator.f a0 = some (r1, r2)) :
    Calls Tryz.prog 68 #[.int .i64 a0] w fun e w' => e = .returned (.agg #[.string r1, .string r2]) ∧ Below w.heap.size w w' := by
  unfold spec_prGenerator.f at h
  split at h
  · rename_i hi
    simp only [Option.some.injEq, Prod.mk.injEq] at h
    obtain ⟨rfl, rfl⟩ := h
    have := N.prGenerator_calls a0.toNat (by omega) w
    rw [show ((a0.toNat : Nat) : Int) = a0 by omega] at this
    exact this
  · cases h
def spec_wdLetter.f (a0 : Int) : Option (ByteArray × ByteArray) := if a0 ≠ 0 ∧ -90 ≤ a0 ∧ a0 ≤ 90 then some (N.tx (N.letP a0).1, N.tx (N.letP a0).2) else none
theorem spec_wdLetter.calls (a0 : Int) (r1 : ByteArray) (r2 : ByteArray) (w : World) (h : spec_wdLetter.f a0 = some (r1, r2)) :
    Calls Tryz.prog 55 #[.int .i64 a0] w fun e w' => e = .returned (.agg #[.string r1, .string r2]) ∧ Below w.heap.size w w' := by
  unfold spec_wdLetter.f at h
  split at h
  · rename_i hi
    simp only [Option.some.injEq, Prod.mk.injEq] at h
    obtain ⟨rfl, rfl⟩ := h
    exact N.wdLetter_calls a0 hi w
  · cases h
def spec_trGraft.f (a0 : ByteArray) (a1 : Int) (a2 : ByteArray) : Option (ByteArray) := match N.parseT a0, N.parseT a2 with
  | some T, some O => if 0 ≤ a1 ∧ a1.toNat < T.carets + 1 ∧ T.carets < 1000 ∧ O.carets < 1000 then some (N.tx (N.graft T a1.toNat O)) else none
  | _, _ => none
theorem spec_trGraft.calls (a0 : ByteArray) (a1 : Int) (a2 : ByteArray) (r : ByteArray) (w : World) (h : spec_trGraft.f a0 a1 a2 = some r) :
    Calls Tryz.prog 92 #[.string a0, .int .i64 a1, .string a2] w fun e w' => e = .returned (.string r) ∧ Drawn0 w w' := by
  unfold spec_trGraft.f at h
  split at h
  · rename_i T O e1 e2
    split at h
    · rename_i hi
      obtain rfl := Option.some.inj h
      rw [N.parseT_some e1, N.parseT_some e2]
      have := N.trGraft_tree T O a1.toNat hi.2.2.1 hi.2.2.2 hi.2.1 w
      rw [show ((a1.toNat : Nat) : Int) = a1 by omega] at this
      refine this.mono ?_
      rintro e w' ⟨rfl, m, rfl⟩
      exact ⟨rfl, ⟨⟨m, rfl⟩⟩⟩
    · cases h
  · cases h
def impl_PairOfWord.f (l0 : List Int) : Option (ByteArray × ByteArray × Bool) := if N.SevL l0 ∧ l0.length ≤ 20 then (N.pwW l0 N.one).map N.okP else none
theorem impl_PairOfWord.calls (A0 : Option Addr) (c0 : Nat) (l0 : List Int) (r1 : ByteArray) (r2 : ByteArray) (r3 : Bool) (w : World) (hr0 : Kd.C (Kd.int .i64) w A0 l0.length l0) (hc0 : l0.length ≤ c0) (h : impl_PairOfWord.f l0 = some (r1, r2, r3)) :
    Calls Tryz.prog 11 #[.slice A0 l0.length c0] w fun e w' => e = .returned (.tuple #[.agg #[.string r1, .string r2], .bool r3]) ∧ Below w.heap.size w w' := by
  unfold impl_PairOfWord.f at h
  split at h
  · rename_i hi
    cases e : N.pwW l0 N.one with
    | none => rw [e] at h; cases h
    | some p =>
      rw [e] at h
      simp only [Option.map_some, Option.some.injEq, N.okP, Prod.mk.injEq] at h
      obtain ⟨rfl, rfl, rfl⟩ := h
      exact N.PairOfWord_yes l0 hi.2 hi.1 p e _ w (N.reads_of_kdC hr0)
  · cases h
end Go.Proofs.YtijnadjgmmednaaGreat.PA
namespace Go.Proofs.YtijnadjgmmednaaGreat.PA
open Go.RowKit Go.Proofs.YtijnadjgmmednaaGreatW.PrintWords
def foundR : Option (List Int) → List Int × Bool
  | none => ([], false)
  | some w => (w, true)
theorem foundR_val {w : World} {base : Nat} {v : Value} {s : Option (List Int)} (h : N.FoundV w base v s) : Kd.R (Kd.int .i64) 3 w base (fun _ => True) v (foundR s).1 := by
  cases s with
  | none => cases h; exact Kd.R_nil _ _ _ _ _
  | some xs => exact N.kdR_of_own h
theorem foundR_flag (s : Option (List Int)) : N.foundF s = (foundR s).2 := by cases s <;> rfl
def impl_FindConjugator.f (a0_0 : ByteArray) (a0_1 : ByteArray) (a1_0 : ByteArray) (a1_1 : ByteArray) (a2 : Int) : Option (List Int × Bool) := some (match N.pairT a0_0 a0_1, N.pairT a1_0 a1_1 with
  | some p, some q => if 0 ≤ a2 ∧ a2 ≤ 4 then foundR (N.conjugA p (N.ptx (N.red q)) 0 (a2.toNat + 1)) else ([], false)
  | _, _ => ([], false))
theorem impl_FindConjugator.no (a0_0 : ByteArray) (a0_1 : ByteArray) (a1_0 : ByteArray) (a1_1 : ByteArray) (a2 : Int) (w : World) (h : ¬ ((N.Good a0_0 a0_1 ∧ N.Good a1_0 a1_1) ∧ 0 ≤ a2 ∧ a2 ≤ 4)) :
    Calls Tryz.prog 6 #[.agg #[.string a0_0, .string a0_1], .agg #[.string a1_0, .string a1_1], .int .i64 a2] w fun e w' => ∃ v0_ : Value, e = .returned (.tuple #[v0_, .bool false]) ∧ Kd.R (Kd.int .i64) 3 w' w.heap.size (fun _ => True) v0_ [] ∧ Below w.heap.size w w' := by
  refine (N.implFC_no a0_0 a0_1 a1_0 a1_1 a2 h w).mono ?_
  rintro e w' ⟨v, he, hv, hx⟩
  exact ⟨v, he, foundR_val hv, hx⟩
theorem impl_FindConjugator.calls (a0_0 : ByteArray) (a0_1 : ByteArray) (a1_0 : ByteArray) (a1_1 : ByteArray) (a2 : Int) (r1 : List Int) (r2 : Bool) (w : World) (h : impl_FindConjugator.f a0_0 a0_1 a1_0 a1_1 a2 = some (r1, r2)) :
    Calls Tryz.prog 6 #[.agg #[.string a0_0, .string a0_1], .agg #[.string a1_0, .string a1_1], .int .i64 a2] w fun e w' => ∃ v0_ : Value, e = .returned (.tuple #[v0_, .bool r2]) ∧ Kd.R (Kd.int .i64) 3 w' w.heap.size (fun _ => True) v0_ r1 ∧ Below w.heap.size w w' := by
  unfold impl_FindConjugator.f at h
  rcases N.pairT_cases a0_0 a0_1 with ⟨A, B, rfl, rfl, h1, h2, e⟩ | ⟨g, e⟩
  · rcases N.pairT_cases a1_0 a1_1 with ⟨C, D, rfl, rfl, h3, h4, e'⟩ | ⟨g, e'⟩
    · rw [e, e'] at h
      have h := Option.some.inj h
      simp only at h
      by_cases hm : 0 ≤ a2 ∧ a2 ≤ 4
      · rw [if_pos hm] at h
        have := N.implFC_yes A B C D h1 h2 h3 h4 a2.toNat (by omega) w
        rw [show ((a2.toNat : Nat) : Int) = a2 by omega, foundR_flag, h] at this
        refine this.mono ?_
        rintro e w' ⟨v, he, hv, hx⟩
        have := foundR_val hv
        rw [h] at this
        exact ⟨v, he, this, hx⟩
      · rw [if_neg hm] at h
        simp only [Prod.mk.injEq] at h
        obtain ⟨rfl, rfl⟩ := h
        exact impl_FindConjugator.no _ _ _ _ _ w (fun hh => hm hh.2)
    · rw [e, e'] at h
      have h := Option.some.inj h
      simp only [Prod.mk.injEq] at h
      obtain ⟨rfl, rfl⟩ := h
      exact impl_FindConjugator.no _ _ _ _ _ w (fun hh => g hh.1.2)
  · rw [e] at h
    have h := Option.some.inj h
    simp only [Prod.mk.injEq] at h
    obtain ⟨rfl, rfl⟩ := h
    exact impl_FindConjugator.no _ _ _ _ _ w (fun hh => g hh.1.1)
def spec_FindConjugator.f := impl_FindConjugator.f
theorem spec_FindConjugator.no (a0_0 : ByteArray) (a0_1 : ByteArray) (a1_0 : ByteArray) (a1_1 : ByteArray) (a2 : Int) (w : World) (h : ¬ ((N.Good a0_0 a0_1 ∧ N.Good a1_0 a1_1) ∧ 0 ≤ a2 ∧ a2 ≤ 4)) :
    Calls Tryz.prog 7 #[.agg #[.string a0_0, .string a0_1], .agg #[.string a1_0, .string a1_1], .int .i64 a2] w fun e w' => ∃ v0_ : Value, e = .returned (.tuple #[v0_, .bool false]) ∧ Kd.R (Kd.int .i64) 3 w' w.heap.size (fun _ => True) v0_ [] ∧ Below w.heap.size w w' := by
  refine (N.specFC_no a0_0 a0_1 a1_0 a1_1 a2 h w).mono ?_
  rintro e w' ⟨v, he, hv, hx⟩
  exact ⟨v, he, foundR_val hv, hx⟩
theorem spec_FindConjugator.calls (a0_0 : ByteArray) (a0_1 : ByteArray) (a1_0 : ByteArray) (a1_1 : ByteArray) (a2 : Int) (r1 : List Int) (r2 : Bool) (w : World) (h : spec_FindConjugator.f a0_0 a0_1 a1_0 a1_1 a2 = some (r1, r2)) :
    Calls Tryz.prog 7 #[.agg #[.string a0_0, .string a0_1], .agg #[.string a1_0, .string a1_1], .int .i64 a2] w fun e w' => ∃ v0_ : Value, e = .returned (.tuple #[v0_, .bool r2]) ∧ Kd.R (Kd.int .i64) 3 w' w.heap.size (fun _ => True) v0_ r1 ∧ Below w.heap.size w w' := by
  unfold spec_FindConjugator.f impl_FindConjugator.f at h
  rcases N.pairT_cases a0_0 a0_1 with ⟨A, B, rfl, rfl, h1, h2, e⟩ | ⟨g, e⟩
  · rcases N.pairT_cases a1_0 a1_1 with ⟨C, D, rfl, rfl, h3, h4, e'⟩ | ⟨g, e'⟩
    · rw [e, e'] at h
      have h := Option.some.inj h
      simp only at h
      by_cases hm : 0 ≤ a2 ∧ a2 ≤ 4
      · rw [if_pos hm] at h
        have hA : N.conjugA (A, B) (N.ptx (N.red (C, D))) 0 (a2.toNat + 1) = N.conjugR (A, B) (N.ptx (N.red (C, D))) 0 (a2.toNat + 1) := N.conjug_eq (p := (A, B)) h1 (N.ptx (N.red (C, D))) (a2.toNat + 1)
        have := N.specFC_yes A B C D h1 h2 h3 h4 a2.toNat (by omega) w
        rw [show ((a2.toNat : Nat) : Int) = a2 by omega, foundR_flag, ← hA, h] at this
        refine this.mono ?_
        rintro e w' ⟨v, he, hv, hx⟩
        have := foundR_val hv
        rw [h] at this
        exact ⟨v, he, this, hx⟩
      · rw [if_neg hm] at h
        simp only [Prod.mk.injEq] at h
        obtain ⟨rfl, rfl⟩ := h
        exact spec_FindConjugator.no _ _ _ _ _ w (fun hh => hm hh.2)
    · rw [e, e'] at h
      have h := Option.some.inj h
      simp only [Prod.mk.injEq] at h
      obtain ⟨rfl, rfl⟩ := h
      exact spec_FindConjugator.no _ _ _ _ _ w (fun hh => g hh.1.2)
  · rw [e] at h
    have h := Option.some.inj h
    simp only [Prod.mk.injEq] at h
    obtain ⟨rfl, rfl⟩ := h
    exact spec_FindConjugator.no _ _ _ _ _ w (fun hh => g hh.1.1)
def impl_AreConjugateWithin.f (a0_0 : ByteArray) (a0_1 : ByteArray) (a1_0 : ByteArray) (a1_1 : ByteArray) (a2 : Int) : Option (Bool × Bool) := some (match N.pairT a0_0 a0_1, N.pairT a1_0 a1_1 with
  | some p, some q => if 0 ≤ a2 ∧ a2 ≤ 4 then (N.foundF (N.conjugA p (N.ptx (N.red q)) 0 (a2.toNat + 1)), true) else (false, false)
  | _, _ => (false, false))
theorem impl_AreConjugateWithin.calls (a0_0 : ByteArray) (a0_1 : ByteArray) (a1_0 : ByteArray) (a1_1 : ByteArray) (a2 : Int) (r1 : Bool) (r2 : Bool) (w : World) (h : impl_AreConjugateWithin.f a0_0 a0_1 a1_0 a1_1 a2 = some (r1, r2)) :
    Calls Tryz.prog 8 #[.agg #[.string a0_0, .string a0_1], .agg #[.string a1_0, .string a1_1], .int .i64 a2] w fun e w' => e = .returned (.tuple #[.bool r1, .bool r2]) ∧ Below w.heap.size w w' := by
  unfold impl_AreConjugateWithin.f at h
  rcases N.pairT_cases a0_0 a0_1 with ⟨A, B, rfl, rfl, h1, h2, e⟩ | ⟨g, e⟩
  · rcases N.pairT_cases a1_0 a1_1 with ⟨C, D, rfl, rfl, h3, h4, e'⟩ | ⟨g, e'⟩
    · rw [e, e'] at h
      have h := Option.some.inj h
      simp only at h
      by_cases hm : 0 ≤ a2 ∧ a2 ≤ 4
      · rw [if_pos hm] at h
        simp only [Prod.mk.injEq] at h
        obtain ⟨rfl, rfl⟩ := h
        have := N.implAC_yes A B C D h1 h2 h3 h4 a2.toNat (by omega) w
        rw [show ((a2.toNat : Nat) : Int) = a2 by omega] at this
        exact this
      · rw [if_neg hm] at h
        simp only [Prod.mk.injEq] at h
        obtain ⟨rfl, rfl⟩ := h
        exact N.implAC_no _ _ _ _ _ (fun hh => hm hh.2) w
    · rw [e, e'] at h
      have h := Option.some.inj h
      simp only [Prod.mk.injEq] at h
      obtain ⟨rfl, rfl⟩ := h
      exact N.implAC_no _ _ _ _ _ (fun hh => g hh.1.2) w
  · rw [e] at h
    have h := Option.some.inj h
    simp only [Prod.mk.injEq] at h
    obtain ⟨rfl, rfl⟩ := h
    exact N.implAC_no _ _ _ _ _ (fun hh => g hh.1.1) w
def spec_AreConjugateWithin.f := impl_AreConjugateWithin.f
theorem spec_AreConjugateWithin.calls (a0_0 : ByteArray) (a0_1 : ByteArray) (a1_0 : ByteArray) (a1_1 : ByteArray) (a2 : Int) (r1 : Bool) (r2 : Bool) (w : World) (h : spec_AreConjugateWithin.f a0_0 a0_1 a1_0 a1_1 a2 = some (r1, r2)) :
    Calls Tryz.prog 9 #[.agg #[.string a0_0, .string a0_1], .agg #[.string a1_0, .string a1_1], .int .i64 a2] w fun e w' => e = .returned (.tuple #[.bool r1, .bool r2]) ∧ Below w.heap.size w w' := by
  unfold spec_AreConjugateWithin.f impl_AreConjugateWithin.f at h
  rcases N.pairT_cases a0_0 a0_1 with ⟨A, B, rfl, rfl, h1, h2, e⟩ | ⟨g, e⟩
  · rcases N.pairT_cases a1_0 a1_1 with ⟨C, D, rfl, rfl, h3, h4, e'⟩ | ⟨g, e'⟩
    · rw [e, e'] at h
      have h := Option.some.inj h
      simp only at h
      by_cases hm : 0 ≤ a2 ∧ a2 ≤ 4
      · rw [if_pos hm] at h
        simp only [Prod.mk.injEq] at h
        obtain ⟨rfl, rfl⟩ := h
        have := N.specAC_yes A B C D h1 h2 h3 h4 a2.toNat (by omega) w
        rw [show ((a2.toNat : Nat) : Int) = a2 by omega] at this
        rw [show N.conjugR (A, B) (N.ptx (N.red (C, D))) 0 (a2.toNat + 1) = N.conjugA (A, B) (N.ptx (N.red (C, D))) 0 (a2.toNat + 1) from (N.conjug_eq (p := (A, B)) h1 (N.ptx (N.red (C, D))) (a2.toNat + 1)).symm] at this
        exact this
      · rw [if_neg hm] at h
        simp only [Prod.mk.injEq] at h
        obtain ⟨rfl, rfl⟩ := h
        exact N.specAC_no _ _ _ _ _ (fun hh => hm hh.2) w
    · rw [e, e'] at h
      have h := Option.some.inj h
      simp only [Prod.mk.injEq] at h
      obtain ⟨rfl, rfl⟩ := h
      exact N.specAC_no _ _ _ _ _ (fun hh => g hh.1.2) w
  · rw [e] at h
    have h := Option.some.inj h
    simp only [Prod.mk.injEq] at h
    obtain ⟨rfl, rfl⟩ := h
    exact N.specAC_no _ _ _ _ _ (fun hh => g hh.1.1) w
def cwF : Option (N.Tr × N.Tr) → ByteArray × ByteArray × Bool
  | none => N.noP
  | some p => N.okP p
theorem cwF_val (o : Option (N.Tr × N.Tr)) : N.CwV o = .tuple #[.agg #[.string (cwF o).1, .string (cwF o).2.1], .bool (cwF o).2.2] := by cases o <;> rfl
def impl_ConjugateByWord.f (a0_0 : ByteArray) (a0_1 : ByteArray) (l1 : List Int) : Option (ByteArray × ByteArray × Bool) := if l1.length ≤ 1048576 then some (match N.pairT a0_0 a0_1 with
  | some p => if l1.length ≤ 6 ∧ N.TwoL l1 then cwF (N.cjW l1 (N.red p)) else N.noP
  | none => N.noP) else none
theorem impl_ConjugateByWord.calls (a0_0 : ByteArray) (a0_1 : ByteArray) (A1 : Option Addr) (c1 : Nat) (l1 : List Int) (r1 : ByteArray) (r2 : ByteArray) (r3 : Bool) (w : World) (hr1 : Kd.C (Kd.int .i64) w A1 l1.length l1) (hc1 : l1.length ≤ c1) (h : impl_ConjugateByWord.f a0_0 a0_1 l1 = some (r1, r2, r3)) :
    Calls Tryz.prog 19 #[.agg #[.string a0_0, .string a0_1], .slice A1 l1.length c1] w fun e w' => e = .returned (.tuple #[.agg #[.string r1, .string r2], .bool r3]) ∧ Below w.heap.size w w' := by
  unfold impl_ConjugateByWord.f at h
  have hv := N.reads_of_kdC (c := c1) hr1
  split at h
  · rename_i hl
    rcases N.pairT_cases a0_0 a0_1 with ⟨A, B, rfl, rfl, h1, h2, e⟩ | ⟨g, e⟩
    · rw [e] at h
      have h := Option.some.inj h
      simp only at h
      by_cases hm : l1.length ≤ 6 ∧ N.TwoL l1
      · rw [if_pos hm] at h
        have := N.implCW_yes A B h1 h2 l1 hm.1 hm.2 _ w hv
        rw [cwF_val, h] at this
        exact this
      · rw [if_neg hm] at h
        simp only [N.noP, Prod.mk.injEq] at h
        obtain ⟨rfl, rfl, rfl⟩ := h
        exact N.implCW_no _ _ l1 hl (fun hh => hm hh.2) _ w hv
    · rw [e] at h
      have h := Option.some.inj h
      simp only [N.noP, Prod.mk.injEq] at h
      obtain ⟨rfl, rfl, rfl⟩ := h
      exact N.implCW_no _ _ l1 hl (fun hh => g hh.1) _ w hv
  · cases h
def spec_ConjugateByWord.f := impl_ConjugateByWord.f
theorem spec_ConjugateByWord.calls (a0_0 : ByteArray) (a0_1 : ByteArray) (A1 : Option Addr) (c1 : Nat) (l1 : List Int) (r1 : ByteArray) (r2 : ByteArray) (r3 : Bool) (w : World) (hr1 : Kd.C (Kd.int .i64) w A1 l1.length l1) (hc1 : l1.length ≤ c1) (h : spec_ConjugateByWord.f a0_0 a0_1 l1 = some (r1, r2, r3)) :
    Calls Tryz.prog 20 #[.agg #[.string a0_0, .string a0_1], .slice A1 l1.length c1] w fun e w' => e = .returned (.tuple #[.agg #[.string r1, .string r2], .bool r3]) ∧ Below w.heap.size w w' := by
  unfold spec_ConjugateByWord.f impl_ConjugateByWord.f at h
  have hv := N.reads_of_kdC (c := c1) hr1
  split at h
  · rename_i hl
    rcases N.pairT_cases a0_0 a0_1 with ⟨A, B, rfl, rfl, h1, h2, e⟩ | ⟨g, e⟩
    · rw [e] at h
      have h := Option.some.inj h
      simp only at h
      by_cases hm : l1.length ≤ 6 ∧ N.TwoL l1
      · rw [if_pos hm] at h
        have := N.specCW_yes A B h1 h2 l1 hm.1 hm.2 _ w hv
        rw [cwF_val, h] at this
        exact this
      · rw [if_neg hm] at h
        simp only [N.noP, Prod.mk.injEq] at h
        obtain ⟨rfl, rfl, rfl⟩ := h
        exact N.specCW_no _ _ l1 hl (fun hh => hm hh.2) _ w hv
    · rw [e] at h
      have h := Option.some.inj h
      simp only [N.noP, Prod.mk.injEq] at h
      obtain ⟨rfl, rfl, rfl⟩ := h
      exact N.specCW_no _ _ l1 hl (fun hh => g hh.1) _ w hv
  · cases h
def impl_LeastConjugate.f (a0_0 : ByteArray) (a0_1 : ByteArray) (a1 : Int) : Option (ByteArray × ByteArray × Bool) := some (match N.pairT a0_0 a0_1 with
  | some p => if 0 ≤ a1 ∧ a1 ≤ 4 then N.okP (N.leastR p a1.toNat) else N.noP
  | none => N.noP)
theorem impl_LeastConjugate.calls (a0_0 : ByteArray) (a0_1 : ByteArray) (a1 : Int) (r1 : ByteArray) (r2 : ByteArray) (r3 : Bool) (w : World) (h : impl_LeastConjugate.f a0_0 a0_1 a1 = some (r1, r2, r3)) :
    Calls Tryz.prog 22 #[.agg #[.string a0_0, .string a0_1], .int .i64 a1] w fun e w' => e = .returned (.tuple #[.agg #[.string r1, .string r2], .bool r3]) ∧ Below w.heap.size w w' := by
  unfold impl_LeastConjugate.f at h
  rcases N.pairT_cases a0_0 a0_1 with ⟨A, B, rfl, rfl, h1, h2, e⟩ | ⟨g, e⟩
  · rw [e] at h
    have h := Option.some.inj h
    simp only at h
    by_cases hm : 0 ≤ a1 ∧ a1 ≤ 4
    · rw [if_pos hm] at h
      have := N.implLC_yes A B h1 h2 a1.toNat (by omega) w
      rw [show ((a1.toNat : Nat) : Int) = a1 by omega] at this
      rw [show N.leastA (A, B) (a1.toNat + 1) = N.leastR (A, B) a1.toNat from N.least_eq (p := (A, B)) h1 a1.toNat] at this
      simp only [N.okP, Prod.mk.injEq] at h
      obtain ⟨rfl, rfl, rfl⟩ := h
      exact this
    · rw [if_neg hm] at h
      simp only [N.noP, Prod.mk.injEq] at h
      obtain ⟨rfl, rfl, rfl⟩ := h
      exact N.implLC_no _ _ _ (fun hh => hm hh.2) w
  · rw [e] at h
    have h := Option.some.inj h
    simp only [N.noP, Prod.mk.injEq] at h
    obtain ⟨rfl, rfl, rfl⟩ := h
    exact N.implLC_no _ _ _ (fun hh => g hh.1) w
def spec_LeastConjugate.f := impl_LeastConjugate.f
theorem spec_LeastConjugate.calls (a0_0 : ByteArray) (a0_1 : ByteArray) (a1 : Int) (r1 : ByteArray) (r2 : ByteArray) (r3 : Bool) (w : World) (h : spec_LeastConjugate.f a0_0 a0_1 a1 = some (r1, r2, r3)) :
    Calls Tryz.prog 23 #[.agg #[.string a0_0, .string a0_1], .int .i64 a1] w fun e w' => e = .returned (.tuple #[.agg #[.string r1, .string r2], .bool r3]) ∧ Below w.heap.size w w' := by
  unfold spec_LeastConjugate.f impl_LeastConjugate.f at h
  rcases N.pairT_cases a0_0 a0_1 with ⟨A, B, rfl, rfl, h1, h2, e⟩ | ⟨g, e⟩
  · rw [e] at h
    have h := Option.some.inj h
    simp only at h
    by_cases hm : 0 ≤ a1 ∧ a1 ≤ 4
    · rw [if_pos hm] at h
      have := N.specLC_yes A B h1 h2 a1.toNat (by omega) w
      rw [show ((a1.toNat : Nat) : Int) = a1 by omega] at this
      simp only [N.okP, Prod.mk.injEq] at h
      obtain ⟨rfl, rfl, rfl⟩ := h
      exact this
    · rw [if_neg hm] at h
      simp only [N.noP, Prod.mk.injEq] at h
      obtain ⟨rfl, rfl, rfl⟩ := h
      exact N.specLC_no _ _ _ (fun hh => hm hh.2) w
  · rw [e] at h
    have h := Option.some.inj h
    simp only [N.noP, Prod.mk.injEq] at h
    obtain ⟨rfl, rfl, rfl⟩ := h
    exact N.specLC_no _ _ _ (fun hh => g hh.1) w
end Go.Proofs.YtijnadjgmmednaaGreat.PA
