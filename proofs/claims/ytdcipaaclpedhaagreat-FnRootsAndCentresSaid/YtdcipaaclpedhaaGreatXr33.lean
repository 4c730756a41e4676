import Derived.Test.YtdcipaaclpedhaaGreatXr24
import Derived.Test.YtdcipaaclpedhaaGreatXr26
import Derived.Test.YtdcipaaclpedhaaGreatXr27
/- A part of the proof: lemmas that later parts use. -/
set_option linter.unusedVariables false
set_option linter.unusedSimpArgs false
namespace Go.Proofs.YtdcipaaclpedhaaGreat.PA
open Go.RowKit Go.Proofs.YtdcipaaclpedhaaGreatW.PrintWords
def prS (l : List (ByteArray × ByteArray)) : List S25 := l.map fun x => ⟨x.1, x.2⟩
theorem kdR_pr {w : World} {base : Nat} {v : Value} {l : List (ByteArray × ByteArray)} (h : w.ownsRow base 25 2 v l.length (N.psT l)) : Kd.R k25 25 w base (fun _ => True) v (prS l) := by
  have hr : ∀ (ok : Nat → Prop) (l : List (ByteArray × ByteArray)), Reps (k25.M w base ok) 2 (prS l) (N.psT l) := by
    intro ok l
    induction l with
    | nil => exact ⟨rfl, fun j p h => by simp [prS] at h⟩
    | cons x l ih =>
      have h1 : Reps (k25.M w base ok) 2 [(⟨x.1, x.2⟩ : S25)] [.string x.1, .string x.2] := by
        refine ⟨rfl, fun j p hj => ?_⟩
        cases j with
        | zero =>
          simp at hj
          subst hj
          exact k25_mkM _ _ _ _
        | succ j => simp at hj
      exact Kd.reps_append h1 ih
  refine ⟨fun _ _ => trivial, N.psT l, ?_, hr _ l⟩
  unfold prS
  rw [List.length_map]
  exact h
theorem give_ps {f : Nat} {args : Array Value} {w : World} {xs : List (ByteArray × ByteArray)} {b : Bool} {r1 : List (S25)} {r2 : Bool} (h : (prS xs, b) = (r1, r2)) (hc : Calls Tryz.prog f args w (N.GivesPS w xs b)) :
    Calls Tryz.prog f args w fun e w' => ∃ v0_ : Value, e = .returned (.tuple #[v0_, .bool r2]) ∧ Kd.R k25 25 w' w.heap.size (fun _ => True) v0_ r1 ∧ Below w.heap.size w w' := by
  simp only [Prod.mk.injEq] at h
  obtain ⟨rfl, rfl⟩ := h
  refine hc.mono ?_
  rintro e w' ⟨v, rfl, ho, hx⟩
  exact ⟨v, rfl, kdR_pr ho, hx⟩
def prR (x : List (ByteArray × ByteArray) × Bool) : List (S25) × Bool := (prS x.1, x.2)
def rootsF (s t : ByteArray) (n : Int) : List (ByteArray × ByteArray) × Bool := match N.pairT s t with
  | some p => if 2 ≤ n ∧ n ≤ 4 then (N.tps ((N.smallP 3).filter (N.rootB p n.toNat)), true) else ([], false)
  | none => ([], false)
def commF (s t : ByteArray) (n : Int) : List (ByteArray × ByteArray) × Bool := match N.pairT s t with
  | some p => if 0 ≤ n ∧ n ≤ 3 then (N.tps ((N.smallP n.toNat).filter (N.comm p)), true) else ([], false)
  | none => ([], false)
def smallF (n : Int) : List (ByteArray × ByteArray) × Bool := if 0 ≤ n ∧ n ≤ 3 then (N.tps (N.smallP n.toNat), true) else ([], false)
def impl_RootsOf.f (a0_0 : ByteArray) (a0_1 : ByteArray) (a1 : Int) : Option ((List (S25)) × Bool) := some (prR (rootsF a0_0 a0_1 a1))
theorem impl_RootsOf.calls (a0_0 : ByteArray) (a0_1 : ByteArray) (a1 : Int) (r1 : List (S25)) (r2 : Bool) (w : World) (h : impl_RootsOf.f a0_0 a0_1 a1 = some (r1, r2)) :
    Calls Tryz.prog 6 #[.agg #[.string a0_0, .string a0_1], .int .i64 a1] w fun e w' => ∃ v0_ : Value, e = .returned (.tuple #[v0_, .bool r2]) ∧ Kd.R k25 25 w' w.heap.size (fun _ => True) v0_ r1 ∧ Below w.heap.size w w' := by
  refine give_ps (xs := (rootsF a0_0 a0_1 a1).1) (b := (rootsF a0_0 a0_1 a1).2) (Option.some.inj h) ?_
  unfold rootsF
  rcases N.pairT_cases a0_0 a0_1 with ⟨A, B, rfl, rfl, h1, h2, e⟩ | ⟨g, e⟩
  · rw [e]
    dsimp only
    by_cases hn : 2 ≤ a1 ∧ a1 ≤ 4
    · rw [if_pos hn]
      have := N.implRO_yes A B h1 h2 a1.toNat (by omega) (by omega) w
      rwa [show ((a1.toNat : Nat) : Int) = a1 by omega] at this
    · rw [if_neg hn]
      exact N.implRO_no _ _ a1 (fun hh => hn hh.2) w
  · rw [e]
    exact N.implRO_no _ _ a1 (fun hh => g hh.1) w
def spec_RootsOf.f := impl_RootsOf.f
theorem spec_RootsOf.calls (a0_0 : ByteArray) (a0_1 : ByteArray) (a1 : Int) (r1 : List (S25)) (r2 : Bool) (w : World) (h : spec_RootsOf.f a0_0 a0_1 a1 = some (r1, r2)) :
    Calls Tryz.prog 7 #[.agg #[.string a0_0, .string a0_1], .int .i64 a1] w fun e w' => ∃ v0_ : Value, e = .returned (.tuple #[v0_, .bool r2]) ∧ Kd.R k25 25 w' w.heap.size (fun _ => True) v0_ r1 ∧ Below w.heap.size w w' := by
  refine give_ps (xs := (rootsF a0_0 a0_1 a1).1) (b := (rootsF a0_0 a0_1 a1).2) (Option.some.inj h) ?_
  unfold rootsF
  rcases N.pairT_cases a0_0 a0_1 with ⟨A, B, rfl, rfl, h1, h2, e⟩ | ⟨g, e⟩
  · rw [e]
    dsimp only
    by_cases hn : 2 ≤ a1 ∧ a1 ≤ 4
    · rw [if_pos hn]
      have := N.specRO_yes A B h1 h2 a1.toNat (by omega) (by omega) w
      rwa [show ((a1.toNat : Nat) : Int) = a1 by omega] at this
    · rw [if_neg hn]
      exact N.specRO_no _ _ a1 (fun hh => hn hh.2) w
  · rw [e]
    exact N.specRO_no _ _ a1 (fun hh => g hh.1) w
def impl_CommutingWith.f (a0_0 : ByteArray) (a0_1 : ByteArray) (a1 : Int) : Option ((List (S25)) × Bool) := some (prR (commF a0_0 a0_1 a1))
theorem impl_CommutingWith.calls (a0_0 : ByteArray) (a0_1 : ByteArray) (a1 : Int) (r1 : List (S25)) (r2 : Bool) (w : World) (h : impl_CommutingWith.f a0_0 a0_1 a1 = some (r1, r2)) :
    Calls Tryz.prog 13 #[.agg #[.string a0_0, .string a0_1], .int .i64 a1] w fun e w' => ∃ v0_ : Value, e = .returned (.tuple #[v0_, .bool r2]) ∧ Kd.R k25 25 w' w.heap.size (fun _ => True) v0_ r1 ∧ Below w.heap.size w w' := by
  refine give_ps (xs := (commF a0_0 a0_1 a1).1) (b := (commF a0_0 a0_1 a1).2) (Option.some.inj h) ?_
  unfold commF
  rcases N.pairT_cases a0_0 a0_1 with ⟨A, B, rfl, rfl, h1, h2, e⟩ | ⟨g, e⟩
  · rw [e]
    dsimp only
    by_cases hn : 0 ≤ a1 ∧ a1 ≤ 3
    · rw [if_pos hn]
      have := N.implCM_yes A B h1 h2 a1.toNat (by omega) w
      rwa [show ((a1.toNat : Nat) : Int) = a1 by omega] at this
    · rw [if_neg hn]
      exact N.implCM_no _ _ a1 (fun hh => hn hh.2) w
  · rw [e]
    exact N.implCM_no _ _ a1 (fun hh => g hh.1) w
def spec_CommutingWith.f := impl_CommutingWith.f
theorem spec_CommutingWith.calls (a0_0 : ByteArray) (a0_1 : ByteArray) (a1 : Int) (r1 : List (S25)) (r2 : Bool) (w : World) (h : spec_CommutingWith.f a0_0 a0_1 a1 = some (r1, r2)) :
    Calls Tryz.prog 14 #[.agg #[.string a0_0, .string a0_1], .int .i64 a1] w fun e w' => ∃ v0_ : Value, e = .returned (.tuple #[v0_, .bool r2]) ∧ Kd.R k25 25 w' w.heap.size (fun _ => True) v0_ r1 ∧ Below w.heap.size w w' := by
  refine give_ps (xs := (commF a0_0 a0_1 a1).1) (b := (commF a0_0 a0_1 a1).2) (Option.some.inj h) ?_
  unfold commF
  rcases N.pairT_cases a0_0 a0_1 with ⟨A, B, rfl, rfl, h1, h2, e⟩ | ⟨g, e⟩
  · rw [e]
    dsimp only
    by_cases hn : 0 ≤ a1 ∧ a1 ≤ 3
    · rw [if_pos hn]
      have := N.specCM_yes A B h1 h2 a1.toNat (by omega) w
      rwa [show ((a1.toNat : Nat) : Int) = a1 by omega] at this
    · rw [if_neg hn]
      exact N.specCM_no _ _ a1 (fun hh => hn hh.2) w
  · rw [e]
    exact N.specCM_no _ _ a1 (fun hh => g hh.1) w
def impl_SmallPairs.f (a0 : Int) : Option ((List (S25)) × Bool) := some (prR (smallF a0))
theorem impl_SmallPairs.calls (a0 : Int) (r1 : List (S25)) (r2 : Bool) (w : World) (h : impl_SmallPairs.f a0 = some (r1, r2)) :
    Calls Tryz.prog 19 #[.int .i64 a0] w fun e w' => ∃ v0_ : Value, e = .returned (.tuple #[v0_, .bool r2]) ∧ Kd.R k25 25 w' w.heap.size (fun _ => True) v0_ r1 ∧ Below w.heap.size w w' := by
  refine give_ps (xs := (smallF a0).1) (b := (smallF a0).2) (Option.some.inj h) ?_
  unfold smallF
  by_cases hn : 0 ≤ a0 ∧ a0 ≤ 3
  · rw [if_pos hn]
    have := N.implSP_yes a0.toNat (by omega) w
    rwa [show ((a0.toNat : Nat) : Int) = a0 by omega] at this
  · rw [if_neg hn]
    exact N.implSP_no a0 hn w
def spec_SmallPairs.f := impl_SmallPairs.f
theorem spec_SmallPairs.calls (a0 : Int) (r1 : List (S25)) (r2 : Bool) (w : World) (h : spec_SmallPairs.f a0 = some (r1, r2)) :
    Calls Tryz.prog 20 #[.int .i64 a0] w fun e w' => ∃ v0_ : Value, e = .returned (.tuple #[v0_, .bool r2]) ∧ Kd.R k25 25 w' w.heap.size (fun _ => True) v0_ r1 ∧ Below w.heap.size w w' := by
  refine give_ps (xs := (smallF a0).1) (b := (smallF a0).2) (Option.some.inj h) ?_
  unfold smallF
  by_cases hn : 0 ≤ a0 ∧ a0 ≤ 3
  · rw [if_pos hn]
    have := N.specSP_yes a0.toNat (by omega) w
    rwa [show ((a0.toNat : Nat) : Int) = a0 by omega] at this
  · rw [if_neg hn]
    exact N.specSP_no a0 hn w
def impl_PowerPair.f (a0_0 : ByteArray) (a0_1 : ByteArray) (a1 : Int) : Option (ByteArray × ByteArray × Bool) := (N.pairT a0_0 a0_1).bind fun p => if 0 ≤ a1 ∧ a1 ≤ 4 then some (match N.powF p a1.toNat with
  | some r => N.okP r
  | none => N.noP) else none
theorem impl_PowerPair.calls (a0_0 : ByteArray) (a0_1 : ByteArray) (a1 : Int) (r1 : ByteArray) (r2 : ByteArray) (r3 : Bool) (w : World) (h : impl_PowerPair.f a0_0 a0_1 a1 = some (r1, r2, r3)) :
    Calls Tryz.prog 9 #[.agg #[.string a0_0, .string a0_1], .int .i64 a1] w fun e w' => e = .returned (.tuple #[.agg #[.string r1, .string r2], .bool r3]) ∧ Below w.heap.size w w' := by
  unfold impl_PowerPair.f at h
  cases hp : N.pairT a0_0 a0_1 with
  | none => rw [hp] at h; cases h
  | some p =>
    rw [hp, Option.bind_some] at h
    obtain ⟨e1, e2, h1, h2⟩ := N.pairT_some hp
    split at h
    · rename_i hn
      replace h := Option.some.inj h
      have := N.PowerPair_yes p.1 p.2 h1 h2 a1.toNat (by omega) w
      rw [show ((a1.toNat : Nat) : Int) = a1 by omega, ← e1, ← e2] at this
      refine this.mono ?_
      rintro e w' ⟨rfl, hx⟩
      refine ⟨?_, hx⟩
      cases hF : N.powF p a1.toNat with
      | none =>
        rw [hF] at h
        simp only [N.noP, Prod.mk.injEq] at h
        obtain ⟨rfl, rfl, rfl⟩ := h
        rfl
      | some x =>
        rw [hF] at h
        simp only [N.okP, Prod.mk.injEq] at h
        obtain ⟨rfl, rfl, rfl⟩ := h
        rfl
    · cases h
def impl_DoCommute.f (a0_0 : ByteArray) (a0_1 : ByteArray) (a1_0 : ByteArray) (a1_1 : ByteArray) : Option (Bool × Bool) := (N.pairT a0_0 a0_1).bind fun p => (N.pairT a1_0 a1_1).bind fun q => some (if (N.mul p q).1.carets ≤ 8 ∧ (N.mul q p).1.carets ≤ 8 then (N.comm p q, true) else (false, false))
theorem impl_DoCommute.calls (a0_0 : ByteArray) (a0_1 : ByteArray) (a1_0 : ByteArray) (a1_1 : ByteArray) (r1 : Bool) (r2 : Bool) (w : World) (h : impl_DoCommute.f a0_0 a0_1 a1_0 a1_1 = some (r1, r2)) :
    Calls Tryz.prog 16 #[.agg #[.string a0_0, .string a0_1], .agg #[.string a1_0, .string a1_1]] w fun e w' => e = .returned (.tuple #[.bool r1, .bool r2]) ∧ Below w.heap.size w w' := by
  unfold impl_DoCommute.f at h
  cases hp : N.pairT a0_0 a0_1 with
  | none => rw [hp] at h; cases h
  | some p =>
    cases hq : N.pairT a1_0 a1_1 with
    | none => rw [hp, hq, Option.bind_some] at h; cases h
    | some q =>
      rw [hp, hq, Option.bind_some, Option.bind_some] at h
      replace h := Option.some.inj h
      obtain ⟨e1, e2, h1, h2⟩ := N.pairT_some hp
      obtain ⟨e3, e4, h3, h4⟩ := N.pairT_some hq
      have := N.DoCommute_yes p.1 p.2 q.1 q.2 h1 h2 h3 h4 w
      rw [← e1, ← e2, ← e3, ← e4] at this
      rw [show ((p.1, p.2) : N.Tr × N.Tr) = p from rfl, show ((q.1, q.2) : N.Tr × N.Tr) = q from rfl, h] at this
      exact this
end Go.Proofs.YtdcipaaclpedhaaGreat.PA
