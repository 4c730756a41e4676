import Derived.Test.YtijnadjgmmednaaXe19
import Derived.Test.YtijnadjgmmednaaXe24
import Derived.Test.YtijnadjgmmednaaXe25
/- A part of the proof: lemmas that later parts use. -/
set_option linter.unusedVariables false
set_option linter.unusedSimpArgs false
namespace Go.Proofs.Ytijnadjgmmednaa.PA
open Go.RowKit Go.Proofs.YtijnadjgmmednaaW.PrintWords
def plN (n d : Int) : Nat := n.toNat * (1099511627776 / d.toNat)
theorem plN_eq (m k : Nat) (hk : k ≤ 40) : plN (m : Int) ((2 ^ k : Nat) : Int) = m * N.part k := by
  unfold plN
  rw [show ((m : Int)).toNat = m from rfl, show (((2 ^ k : Nat) : Int)).toNat = 2 ^ k from rfl, N.part_div hk]
def frS (l : List (Nat × Nat)) : List S36 := l.map fun x => ⟨(x.1 : Int), (x.2 : Int)⟩
theorem kdR_fr {w : World} {base : Nat} {v : Value} {l : List (Nat × Nat)} (h : w.ownsRow base 36 2 v l.length (N.frs l)) : Kd.R k36 36 w base (fun _ => True) v (frS l) := by
  have hr : ∀ (ok : Nat → Prop) (l : List (Nat × Nat)), Reps (k36.M w base ok) 2 (frS l) (N.frs l) := by
    intro ok l
    induction l with
    | nil => exact ⟨rfl, fun j p h => by simp [frS] at h⟩
    | cons x l ih =>
      have h1 : Reps (k36.M w base ok) 2 [(⟨(x.1 : Int), (x.2 : Int)⟩ : S36)] [.int .i64 (x.1 : Nat), .int .i64 (x.2 : Nat)] := by
        refine ⟨rfl, fun j p hj => ?_⟩
        cases j with
        | zero =>
          simp at hj
          subst hj
          exact k36_mkM _ _ _ _
        | succ j => simp at hj
      exact Kd.reps_append h1 ih
  refine ⟨fun _ _ => trivial, N.frs l, ?_, hr _ l⟩
  unfold frS
  rw [List.length_map]
  exact h
def impl_EndSlopes.f (a0_0 : ByteArray) (a0_1 : ByteArray) : Option (Int × Int × Bool) := some (match N.pairT a0_0 a0_1 with
  | some p => ((N.slp p.1 p.2).getD 0 0, (N.slp p.1 p.2).getD p.1.carets 0, true)
  | none => (0, 0, false))
theorem impl_EndSlopes.calls (a0_0 : ByteArray) (a0_1 : ByteArray) (r1 : Int) (r2 : Int) (r3 : Bool) (w : World) (h : impl_EndSlopes.f a0_0 a0_1 = some (r1, r2, r3)) :
    Calls Try.prog 11 #[.agg #[.string a0_0, .string a0_1]] w fun e w' => e = .returned (.tuple #[.int .i64 r1, .int .i64 r2, .bool r3]) ∧ Below w.heap.size w w' := by
  unfold impl_EndSlopes.f at h
  rcases N.pairT_cases a0_0 a0_1 with ⟨A, B, rfl, rfl, h1, h2, e⟩ | ⟨g, e⟩
  · rw [e] at h
    simp only [Option.some.injEq, Prod.mk.injEq] at h
    obtain ⟨rfl, rfl, rfl⟩ := h
    exact N.EndSlopes_yes A B h1 h2 w
  · rw [e] at h
    simp only [Option.some.injEq, Prod.mk.injEq] at h
    obtain ⟨rfl, rfl, rfl⟩ := h
    exact N.EndSlopes_no _ _ g w
def impl_SlopesBeside.f (a0_0 : ByteArray) (a0_1 : ByteArray) (a1_0 : Int) (a1_1 : Int) : Option (Int × Int × Bool) := some (match N.pairT a0_0 a0_1 with
  | some p => if (N.goodB a1_0 a1_1 && decide (1 < a1_1)) = true then (N.slAt p.1 p.2 (plN a1_0 a1_1 - 1), N.slAt p.1 p.2 (plN a1_0 a1_1), true) else (0, 0, false)
  | none => (0, 0, false))
theorem impl_SlopesBeside.calls (a0_0 : ByteArray) (a0_1 : ByteArray) (a1_0 : Int) (a1_1 : Int) (r1 : Int) (r2 : Int) (r3 : Bool) (w : World) (h : impl_SlopesBeside.f a0_0 a0_1 a1_0 a1_1 = some (r1, r2, r3)) :
    Calls Try.prog 17 #[.agg #[.string a0_0, .string a0_1], .agg #[.int .i64 a1_0, .int .i64 a1_1]] w fun e w' => e = .returned (.tuple #[.int .i64 r1, .int .i64 r2, .bool r3]) ∧ Below w.heap.size w w' := by
  unfold impl_SlopesBeside.f at h
  rcases N.pairT_cases a0_0 a0_1 with ⟨A, B, rfl, rfl, h1, h2, e⟩ | ⟨g, e⟩
  · rw [e] at h
    have h := Option.some.inj h
    simp only at h
    split at h
    · rename_i hg
      simp only [Prod.mk.injEq] at h
      obtain ⟨rfl, rfl, rfl⟩ := h
      rw [Bool.and_eq_true] at hg
      obtain ⟨m, k, rfl, rfl, hk, hm, ho⟩ := N.goodB_true hg.1
      have hd := of_decide_eq_true hg.2
      have hk1 : 1 ≤ k := by
        apply Nat.pos_of_ne_zero
        intro h0
        subst h0
        simp at hd
      rw [plN_eq m k (by omega)]
      exact N.SlopesBeside_yes A B h1 h2 m k hk hk1 hm (by omega) hg.1 w
    · rename_i hg
      simp only [Prod.mk.injEq] at h
      obtain ⟨rfl, rfl, rfl⟩ := h
      exact N.SlopesBeside_no2 A B h1 h2 _ _ (by simpa using hg) w
  · rw [e] at h
    simp only [Option.some.injEq, Prod.mk.injEq] at h
    obtain ⟨rfl, rfl, rfl⟩ := h
    exact N.SlopesBeside_no1 _ _ _ _ g w
def spec_SlopesBeside.f := impl_SlopesBeside.f
theorem spec_SlopesBeside.calls (a0_0 : ByteArray) (a0_1 : ByteArray) (a1_0 : Int) (a1_1 : Int) (r1 : Int) (r2 : Int) (r3 : Bool) (w : World) (h : spec_SlopesBeside.f a0_0 a0_1 a1_0 a1_1 = some (r1, r2, r3)) :
    Calls Try.prog 18 #[.agg #[.string a0_0, .string a0_1], .agg #[.int .i64 a1_0, .int .i64 a1_1]] w fun e w' => e = .returned (.tuple #[.int .i64 r1, .int .i64 r2, .bool r3]) ∧ Below w.heap.size w w' := by
  unfold spec_SlopesBeside.f impl_SlopesBeside.f at h
  rcases N.pairT_cases a0_0 a0_1 with ⟨A, B, rfl, rfl, h1, h2, e⟩ | ⟨g, e⟩
  · rw [e] at h
    have h := Option.some.inj h
    simp only at h
    split at h
    · rename_i hg
      simp only [Prod.mk.injEq] at h
      obtain ⟨rfl, rfl, rfl⟩ := h
      rw [Bool.and_eq_true] at hg
      obtain ⟨m, k, rfl, rfl, hk, hm, ho⟩ := N.goodB_true hg.1
      have hd := of_decide_eq_true hg.2
      have hk1 : 1 ≤ k := by
        apply Nat.pos_of_ne_zero
        intro h0
        subst h0
        simp at hd
      rw [plN_eq m k (by omega)]
      exact N.specBeside_yes A B h1 h2 m k hk hk1 hm (by omega) ho hg.1 w
    · rename_i hg
      simp only [Prod.mk.injEq] at h
      obtain ⟨rfl, rfl, rfl⟩ := h
      exact N.specBeside_no2 A B h1 h2 _ _ (by simpa using hg) w
  · rw [e] at h
    simp only [Option.some.injEq, Prod.mk.injEq] at h
    obtain ⟨rfl, rfl, rfl⟩ := h
    exact N.specBeside_no1 _ _ _ _ g w
def spec_mpSlopes.f (a0_0 : ByteArray) (a0_1 : ByteArray) : Option (List Int) := (N.pairT a0_0 a0_1).map fun p => N.slp p.1 p.2
theorem spec_mpSlopes.calls (a0_0 : ByteArray) (a0_1 : ByteArray) (r : List Int) (w : World) (h : spec_mpSlopes.f a0_0 a0_1 = some r) :
    Calls Try.prog 61 #[.agg #[.string a0_0, .string a0_1]] w fun e w' => ∃ v0_ : Value, e = .returned (v0_) ∧ Kd.R (Kd.int .i64) 3 w' w.heap.size (fun _ => True) v0_ r ∧ Below w.heap.size w w' := by
  unfold spec_mpSlopes.f at h
  rcases N.pairT_cases a0_0 a0_1 with ⟨A, B, rfl, rfl, h1, h2, e⟩ | ⟨g, e⟩
  · rw [e, Option.map_some] at h
    obtain rfl := Option.some.inj h
    refine (N.mpSlopes_calls A B h1 h2 w).mono ?_
    rintro e w' ⟨v, rfl, ho, hx⟩
    exact ⟨v, rfl, N.kdR_of_own ho, hx⟩
  · rw [e] at h; cases h
def impl_ValueOf.f (a0_0 : ByteArray) (a0_1 : ByteArray) (a1_0 : Int) (a1_1 : Int) : Option (Int × Int × Bool) := some (match N.pairT a0_0 a0_1 with
  | some p => if N.goodB a1_0 a1_1 = true then (match N.frF (N.vaF p.1 p.2 (plN a1_0 a1_1)) with
    | some x => ((x.1 : Int), (x.2 : Int), true)
    | none => (0, 0, false)) else (0, 0, false)
  | none => (0, 0, false))
theorem impl_ValueOf.calls (a0_0 : ByteArray) (a0_1 : ByteArray) (a1_0 : Int) (a1_1 : Int) (r1 : Int) (r2 : Int) (r3 : Bool) (w : World) (h : impl_ValueOf.f a0_0 a0_1 a1_0 a1_1 = some (r1, r2, r3)) :
    Calls Try.prog 23 #[.agg #[.string a0_0, .string a0_1], .agg #[.int .i64 a1_0, .int .i64 a1_1]] w fun e w' => e = .returned (.tuple #[.agg #[.int .i64 r1, .int .i64 r2], .bool r3]) ∧ Below w.heap.size w w' := by
  unfold impl_ValueOf.f at h
  rcases N.pairT_cases a0_0 a0_1 with ⟨A, B, rfl, rfl, h1, h2, e⟩ | ⟨g, e⟩
  · rw [e] at h
    have h := Option.some.inj h
    simp only at h
    split at h
    · rename_i hg
      obtain ⟨m, k, rfl, rfl, hk, hm, ho⟩ := N.goodB_true hg
      rw [plN_eq m k (by omega)] at h
      refine (N.implVal_yes A B h1 h2 m k hk hm hg w).mono ?_
      rintro e w' ⟨rfl, hx⟩
      refine ⟨?_, hx⟩
      cases hF : N.frF (N.vaF A B (m * N.part k)) with
      | none =>
        rw [hF] at h
        simp only [Prod.mk.injEq] at h
        obtain ⟨rfl, rfl, rfl⟩ := h
        rfl
      | some x =>
        rw [hF] at h
        simp only [Prod.mk.injEq] at h
        obtain ⟨rfl, rfl, rfl⟩ := h
        rfl
    · rename_i hg
      simp only [Prod.mk.injEq] at h
      obtain ⟨rfl, rfl, rfl⟩ := h
      exact N.implVal_noFrac A B h1 h2 _ _ (by simpa using hg) w
  · rw [e] at h
    simp only [Option.some.injEq, Prod.mk.injEq] at h
    obtain ⟨rfl, rfl, rfl⟩ := h
    exact N.implVal_noPair _ _ _ _ g w
def impl_OrbitOf.f (a0_0 : ByteArray) (a0_1 : ByteArray) (a1_0 : Int) (a1_1 : Int) (a2 : Int) : Option ((List (S36)) × Bool) := some (match N.pairT a0_0 a0_1 with
  | some p => if N.goodB a1_0 a1_1 = true ∧ 0 ≤ a2 ∧ a2 ≤ 20 then (frS ((N.orbT p.1 p.2 (a1_0.toNat, a1_1.toNat) a2.toNat).getD []), (N.orbT p.1 p.2 (a1_0.toNat, a1_1.toNat) a2.toNat).isSome) else ([], false)
  | none => ([], false))
theorem orb_give {s t : ByteArray} {n d m : Int} {r1 : List (S36)} {r2 : Bool} (h : impl_OrbitOf.f s t n d m = some (r1, r2)) :
    (∃ A B x q, s = N.tx A ∧ t = N.tx B ∧ A.carets = B.carets ∧ B.carets ≤ 8 ∧ N.FrOk x ∧ n = ((x.1 : Nat) : Int) ∧ d = ((x.2 : Nat) : Int) ∧ m = ((q : Nat) : Int) ∧ q ≤ 20 ∧ r1 = frS ((N.orbT A B x q).getD []) ∧ r2 = (N.orbT A B x q).isSome) ∨ (¬ (N.Good s t ∧ N.goodB n d = true ∧ 0 ≤ m ∧ m ≤ 20) ∧ r1 = frS [] ∧ r2 = false) := by
  unfold impl_OrbitOf.f at h
  rcases N.pairT_cases s t with ⟨A, B, rfl, rfl, h1, h2, e⟩ | ⟨g, e⟩
  · rw [e] at h
    have h := Option.some.inj h
    simp only at h
    split at h
    · rename_i hg
      simp only [Prod.mk.injEq] at h
      obtain ⟨rfl, rfl⟩ := h
      obtain ⟨u, k, e1, e2, hk, hm, ho⟩ := N.goodB_true hg.1
      have e1' : n = ((n.toNat : Nat) : Int) := by omega
      have e2' : d = ((d.toNat : Nat) : Int) := by omega
      exact .inl ⟨A, B, (n.toNat, d.toNat), m.toNat, rfl, rfl, h1, h2, (by show N.goodB ((n.toNat : Nat) : Int) ((d.toNat : Nat) : Int) = true; rw [← e1', ← e2']; exact hg.1), e1', e2', by omega, by omega, rfl, rfl⟩
    · rename_i hg
      simp only [Prod.mk.injEq] at h
      obtain ⟨rfl, rfl⟩ := h
      exact .inr ⟨fun hh => hg hh.2, rfl, rfl⟩
  · rw [e] at h
    simp only [Option.some.injEq, Prod.mk.injEq] at h
    obtain ⟨rfl, rfl⟩ := h
    exact .inr ⟨fun hh => g hh.1, rfl, rfl⟩
theorem impl_OrbitOf.calls (a0_0 : ByteArray) (a0_1 : ByteArray) (a1_0 : Int) (a1_1 : Int) (a2 : Int) (r1 : List (S36)) (r2 : Bool) (w : World) (h : impl_OrbitOf.f a0_0 a0_1 a1_0 a1_1 a2 = some (r1, r2)) :
    Calls Try.prog 20 #[.agg #[.string a0_0, .string a0_1], .agg #[.int .i64 a1_0, .int .i64 a1_1], .int .i64 a2] w fun e w' => ∃ v0_ : Value, e = .returned (.tuple #[v0_, .bool r2]) ∧ Kd.R k36 36 w' w.heap.size (fun _ => True) v0_ r1 ∧ Below w.heap.size w w' := by
  rcases orb_give h with ⟨A, B, x, q, rfl, rfl, h1, h2, hx, rfl, rfl, rfl, hq, rfl, rfl⟩ | ⟨hn, rfl, rfl⟩
  · refine (N.implOO_yes A B h1 h2 x hx q hq w).mono ?_
    rintro e w' ⟨v, rfl, ho, hx⟩
    exact ⟨v, rfl, kdR_fr ho, hx⟩
  · refine (N.implOO_no _ _ _ _ _ hn w).mono ?_
    rintro e w' ⟨v, rfl, ho, hx⟩
    exact ⟨v, rfl, kdR_fr (l := []) ho, hx⟩
def spec_OrbitOf.f := impl_OrbitOf.f
theorem spec_OrbitOf.calls (a0_0 : ByteArray) (a0_1 : ByteArray) (a1_0 : Int) (a1_1 : Int) (a2 : Int) (r1 : List (S36)) (r2 : Bool) (w : World) (h : spec_OrbitOf.f a0_0 a0_1 a1_0 a1_1 a2 = some (r1, r2)) :
    Calls Try.prog 21 #[.agg #[.string a0_0, .string a0_1], .agg #[.int .i64 a1_0, .int .i64 a1_1], .int .i64 a2] w fun e w' => ∃ v0_ : Value, e = .returned (.tuple #[v0_, .bool r2]) ∧ Kd.R k36 36 w' w.heap.size (fun _ => True) v0_ r1 ∧ Below w.heap.size w w' := by
  rcases orb_give (show impl_OrbitOf.f a0_0 a0_1 a1_0 a1_1 a2 = some (r1, r2) from h) with ⟨A, B, x, q, rfl, rfl, h1, h2, hx, rfl, rfl, rfl, hq, rfl, rfl⟩ | ⟨hn, rfl, rfl⟩
  · refine (N.specOO_yes A B h1 h2 x hx q hq w).mono ?_
    rintro e w' ⟨v, rfl, ho, hx⟩
    exact ⟨v, rfl, kdR_fr ho, hx⟩
  · refine (N.specOO_no _ _ _ _ _ hn w).mono ?_
    rintro e w' ⟨v, rfl, ho, hx⟩
    exact ⟨v, rfl, kdR_fr (l := []) ho, hx⟩
end Go.Proofs.Ytijnadjgmmednaa.PA
