import Derived.Test.YtgnepbogadfinaaXa15
import Derived.Test.YtgnepbogadfinaaXa21
/- A part of the proof: lemmas that later parts use. -/
set_option linter.unusedVariables false
set_option linter.unusedSimpArgs false
namespace Go.Proofs.Ytgnepbogadfinaa.PA
open Go.RowKit Go.Proofs.YtgnepbogadfinaaW.PrintWords
def plN (n d : Int) : Nat := n.toNat * (1099511627776 / d.toNat)
theorem plN_eq (m k : Nat) (hk : k ≤ 40) : plN (m : Int) ((2 ^ k : Nat) : Int) = m * N.part k := by
  unfold plN
  rw [show ((m : Int)).toNat = m from rfl, show (((2 ^ k : Nat) : Int)).toNat = 2 ^ k from rfl, N.part_div hk]
def frS (l : List (Nat × Nat)) : List S25 := l.map fun x => ⟨(x.1 : Int), (x.2 : Int)⟩
theorem kdR_fr {w : World} {base : Nat} {v : Value} {l : List (Nat × Nat)} (h : w.ownsRow base 25 2 v l.length (N.frs l)) : Kd.R k25 25 w base (fun _ => True) v (frS l) := by
  have hr : ∀ (ok : Nat → Prop) (l : List (Nat × Nat)), Reps (k25.M w base ok) 2 (frS l) (N.frs l) := by
    intro ok l
    induction l with
    | nil => exact ⟨rfl, fun j p h => by simp [frS] at h⟩
    | cons x l ih =>
      have h1 : Reps (k25.M w base ok) 2 [(⟨(x.1 : Int), (x.2 : Int)⟩ : S25)] [.int .i64 (x.1 : Nat), .int .i64 (x.2 : Nat)] := by
        refine ⟨rfl, fun j p hj => ?_⟩
        cases j with
        | zero =>
          simp at hj
          subst hj
          exact k25_mkM _ _ _ _
        | succ j => simp at hj
      exact Kd.reps_append h1 ih
  refine ⟨fun _ _ => trivial, N.frs l, ?_, hr _ l⟩
  unfold frS
  rw [List.length_map]
  exact h
def impl_ValueOf.f (a0_0 : ByteArray) (a0_1 : ByteArray) (a1_0 : Int) (a1_1 : Int) : Option (Int × Int × Bool) := some (match N.pairT a0_0 a0_1 with
  | some p => if N.goodB a1_0 a1_1 = true then (match N.frF (N.vaF p.1 p.2 (plN a1_0 a1_1)) with
    | some x => ((x.1 : Int), (x.2 : Int), true)
    | none => (0, 0, false)) else (0, 0, false)
  | none => (0, 0, false))
theorem impl_ValueOf.calls (a0_0 : ByteArray) (a0_1 : ByteArray) (a1_0 : Int) (a1_1 : Int) (r1 : Int) (r2 : Int) (r3 : Bool) (w : World) (h : impl_ValueOf.f a0_0 a0_1 a1_0 a1_1 = some (r1, r2, r3)) :
    Calls Try.prog 9 #[.agg #[.string a0_0, .string a0_1], .agg #[.int .i64 a1_0, .int .i64 a1_1]] w fun e w' => e = .returned (.tuple #[.agg #[.int .i64 r1, .int .i64 r2], .bool r3]) ∧ Below w.heap.size w w' := by
  unfold impl_ValueOf.f at h
  rcases N.pairT_cases a0_0 a0_1 with ⟨A, B, rfl, rfl, h1, h2, e⟩ | ⟨g, e⟩
  · rw [e] at h
    have h := Option.some.inj h
    simp only at h
    split at h
    · rename_i hg
      obtain ⟨m, k, rfl, rfl, hk, hm, ho⟩ := N.goodB_true hg
      rw [plN_eq m k (by omega)] at h
      refine (N.implVal_yes A B h1 h2 m k hk hm hg w).mono ?_
      rintro e w' ⟨rfl, hx⟩
      refine ⟨?_, hx⟩
      cases hF : N.frF (N.vaF A B (m * N.part k)) with
      | none =>
        rw [hF] at h
        simp only [Prod.mk.injEq] at h
        obtain ⟨rfl, rfl, rfl⟩ := h
        rfl
      | some x =>
        rw [hF] at h
        simp only [Prod.mk.injEq] at h
        obtain ⟨rfl, rfl, rfl⟩ := h
        rfl
    · rename_i hg
      simp only [Prod.mk.injEq] at h
      obtain ⟨rfl, rfl, rfl⟩ := h
      exact N.implVal_noFrac A B h1 h2 _ _ (by simpa using hg) w
  · rw [e] at h
    simp only [Option.some.injEq, Prod.mk.injEq] at h
    obtain ⟨rfl, rfl, rfl⟩ := h
    exact N.implVal_noPair _ _ _ _ g w
def spec_mpGood.f (a0_0 : Int) (a0_1 : Int) : Option (Bool) := some (N.goodB a0_0 a0_1)
theorem spec_mpGood.calls (a0_0 : Int) (a0_1 : Int) (r : Bool) (w : World) (h : spec_mpGood.f a0_0 a0_1 = some r) :
    Calls Try.prog 26 #[.agg #[.int .i64 a0_0, .int .i64 a0_1]] w fun e w' => e = .returned (.bool r) ∧ Below w.heap.size w w' := by
  obtain rfl := Option.some.inj h
  exact N.mpGood_calls a0_0 a0_1 w
def spec_mpLeaf.f (a0 : ByteArray) (a1_0 : Int) (a1_1 : Int) : Option (Int) := (N.parseT a0).bind fun T => if T.carets ≤ 20 ∧ N.goodB a1_0 a1_1 = true then some (N.si (plN a1_0 a1_1) (N.addrs T []) 0 0 : Nat) else none
theorem spec_mpLeaf.calls (a0 : ByteArray) (a1_0 : Int) (a1_1 : Int) (r : Int) (w : World) (h : spec_mpLeaf.f a0 a1_0 a1_1 = some r) :
    Calls Try.prog 62 #[.string a0, .agg #[.int .i64 a1_0, .int .i64 a1_1]] w fun e w' => e = .returned (.int .i64 r) ∧ Below w.heap.size w w' := by
  unfold spec_mpLeaf.f at h
  cases e : N.parseT a0 with
  | none => rw [e] at h; cases h
  | some T =>
    rw [e, Option.bind_some] at h
    split at h
    · rename_i hg
      obtain rfl := Option.some.inj h
      rw [N.parseT_some e]
      obtain ⟨m, k, rfl, rfl, hk, hm, ho⟩ := N.goodB_true hg.2
      rw [plN_eq m k (by omega)]
      exact N.mpLeaf_calls T (by have := T.depth_le; omega) (by omega) m k hk hm w
    · cases h
def spec_mpStarts.f (a0 : ByteArray) : Option ((List (S25))) := (N.parseT a0).bind fun T => if T.carets ≤ 20 then some (frS ((N.addrs T []).map N.stF)) else none
theorem spec_mpStarts.calls (a0 : ByteArray) (r : List (S25)) (w : World) (h : spec_mpStarts.f a0 = some r) :
    Calls Try.prog 61 #[.string a0] w fun e w' => ∃ v0_ : Value, e = .returned (v0_) ∧ Kd.R k25 25 w' w.heap.size (fun _ => True) v0_ r ∧ Below w.heap.size w w' := by
  unfold spec_mpStarts.f at h
  cases e : N.parseT a0 with
  | none => rw [e] at h; cases h
  | some T =>
    rw [e, Option.bind_some] at h
    split at h
    · rename_i hg
      obtain rfl := Option.some.inj h
      rw [N.parseT_some e]
      refine (N.mpStarts_calls T (by have := T.depth_le; omega) (by omega) w).mono ?_
      rintro e w' ⟨v, rfl, ho, hx⟩
      exact ⟨v, rfl, kdR_fr (by rw [List.length_map, N.addrs_length]; exact ho), hx⟩
    · cases h
end Go.Proofs.Ytgnepbogadfinaa.PA
