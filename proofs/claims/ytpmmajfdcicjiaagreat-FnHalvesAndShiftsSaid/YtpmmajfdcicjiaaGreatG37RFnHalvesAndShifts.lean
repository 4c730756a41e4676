import Derived.Test.YtpmmajfdcicjiaaGreatG1RFnHalvesAndShifts
import Derived.Test.YtpmmajfdcicjiaaGreatG2RFnHalvesAndShifts
import Derived.Test.YtpmmajfdcicjiaaGreatProg
import Derived.Test.YtpmmajfdcicjiaaGreatG3RFnHalvesAndShifts
import Derived.Test.YtpmmajfdcicjiaaGreatG4RFnHalvesAndShifts
import Derived.Test.YtpmmajfdcicjiaaGreatG12RFnHalvesAndShifts
import Derived.Test.YtpmmajfdcicjiaaGreatG13RFnHalvesAndShifts
import Derived.Test.YtpmmajfdcicjiaaGreatG6RFnHalvesAndShifts
import Derived.Test.YtpmmajfdcicjiaaGreatG8RFnHalvesAndShifts
import Derived.Test.YtpmmajfdcicjiaaGreatG9RFnHalvesAndShifts
import Derived.Test.YtpmmajfdcicjiaaGreatG15RFnHalvesAndShifts
import Derived.Test.YtpmmajfdcicjiaaGreatG5RFnHalvesAndShifts
import Derived.Test.YtpmmajfdcicjiaaGreatG7RFnHalvesAndShifts
import Derived.Test.YtpmmajfdcicjiaaGreatG14RFnHalvesAndShifts
import Derived.Test.YtpmmajfdcicjiaaGreatG17RFnHalvesAndShifts
import Derived.Test.YtpmmajfdcicjiaaGreatG16RFnHalvesAndShifts
import Derived.Test.YtpmmajfdcicjiaaGreatG18RFnHalvesAndShifts
import Derived.Test.YtpmmajfdcicjiaaGreatG19RFnHalvesAndShifts
import Derived.Test.YtpmmajfdcicjiaaGreatG21RFnHalvesAndShifts
import Derived.Test.YtpmmajfdcicjiaaGreatG26RFnHalvesAndShifts
import Derived.Test.YtpmmajfdcicjiaaGreatG27RFnHalvesAndShifts
import Derived.Test.YtpmmajfdcicjiaaGreatG29RFnHalvesAndShifts
import Derived.Test.YtpmmajfdcicjiaaGreatG28RFnHalvesAndShifts
import Derived.Test.YtpmmajfdcicjiaaGreatG30RFnHalvesAndShifts
import Derived.Test.YtpmmajfdcicjiaaGreatG31RFnHalvesAndShifts
import Derived.Test.YtpmmajfdcicjiaaGreatG32RFnHalvesAndShifts
import Derived.Test.YtpmmajfdcicjiaaGreatG33RFnHalvesAndShifts
import Derived.Test.YtpmmajfdcicjiaaGreatG36RFnHalvesAndShifts
import Derived.OwnWalk
import Derived.Deep.LoopGhost
import Derived.Deep.RegionHeld3
import Derived.Deep.QuietTactic
import Derived.BigQuiet
import Derived.Test.YtpmmajfdcicjiaaGreatG11RFnHalvesAndShifts
import Derived.Deep.CutRange
/- FnHalvesAndShifts: what its calls give. -/
namespace Go.Proofs.YtpmmajfdcicjiaaGreat.N
open Go.RowKit
set_option linter.unusedVariables false
set_option linter.unusedSimpArgs false

/-- A pair's texts. -/
def pv (s t : ByteArray) : Value := .agg #[.string s, .string t]
theorem ifP_yes {p : Tr × Tr} (h : p.1.carets ≤ 8) : ifP p = .tuple #[.agg #[.string (tx p.1), .string (tx p.2)], .bool true] := if_pos h
theorem ifP_no {p : Tr × Tr} (h : ¬ p.1.carets ≤ 8) : ifP p = .tuple #[emptyP, .bool false] := if_neg h
theorem red8 {A B : Tr} (h1 : A.carets = B.carets) (h2 : B.carets ≤ 8) : (red (A, B)).1.carets = (red (A, B)).2.carets ∧ (red (A, B)).2.carets ≤ 8 := by
  have := red_le (A, B)
  simp only at this
  exact ⟨red_same (p := (A, B)) h1, by omega⟩
/-- What the calls on two pairs give. -/
structure HalF (s1 t1 s2 t2 x y : ByteArray) (b : Bool) : Prop where
  h1 : ∀ w, Calls Tryz.prog 7 #[pv s1 t1, pv s2 t2] w fun e w' => e = .returned (.tuple #[pv x y, .bool b]) ∧ Ext w w'
  h2 : ∀ w, Calls Tryz.prog 8 #[pv s1 t1, pv s2 t2] w fun e w' => e = .returned (.tuple #[pv x y, .bool b]) ∧ Ext w w'
  more : b = true → ∃ a1 a2 b1 b2 f1 f2 g1 g2,
    (∀ w, Calls Tryz.prog 9 #[pv x y] w fun e w' => e = .returned (.tuple #[pv a1 a2, pv b1 b2, .bool true]) ∧ Ext w w') ∧
    (∀ w, Calls Tryz.prog 7 #[pv s1 t1, pv ⟨#[46]⟩ ⟨#[46]⟩] w fun e w' => e = .returned (.tuple #[pv f1 f2, .bool true]) ∧ Ext w w') ∧
    (∀ w, Calls Tryz.prog 7 #[pv ⟨#[46]⟩ ⟨#[46]⟩, pv s2 t2] w fun e w' => e = .returned (.tuple #[pv g1 g2, .bool true]) ∧ Ext w w') ∧
    (∀ w, Calls Tryz.prog 11 #[pv s1 t1] w fun e w' => e = .returned (pv a1 a2) ∧ Ext w w') ∧
    (∀ w, Calls Tryz.prog 11 #[pv s2 t2] w fun e w' => e = .returned (pv b1 b2) ∧ Ext w w') ∧
    (∀ w, Calls Tryz.prog 12 #[pv f1 f2, pv g1 g2] w fun e w' => e = .returned (.tuple #[pv x y, .bool true]) ∧ Ext w w') ∧
    (∀ w, Calls Tryz.prog 12 #[pv g1 g2, pv f1 f2] w fun e w' => e = .returned (.tuple #[pv x y, .bool true]) ∧ Ext w w')
theorem halF_of (s1 t1 s2 t2 : ByteArray) : ∃ x y b, HalF s1 t1 s2 t2 x y b := by
  by_cases h : Good s1 t1 ∧ Good s2 t2
  · obtain ⟨⟨A, B, rfl, rfl, h1, h2⟩, ⟨C, D, rfl, rfl, h3, h4⟩⟩ := h
    have hp : Bal (A, B) := h1
    have hq : Bal (C, D) := h3
    have E1 : ∀ w, Calls Tryz.prog 7 #[pv (tx A) (tx B), pv (tx C) (tx D)] w fun e w' => e = .returned (ifP (red (hv (A, B) (C, D)))) ∧ Ext w w' := HalvesPair_yes A B C D h1 h2 h3 h4
    have E2 : ∀ w, Calls Tryz.prog 8 #[pv (tx A) (tx B), pv (tx C) (tx D)] w fun e w' => e = .returned (ifP (red (hv (A, B) (C, D)))) ∧ Ext w w' := specHalvesPair_yes A B C D h1 h2 h3 h4
    by_cases h8 : (red (hv (A, B) (C, D))).1.carets ≤ 8
    · rw [ifP_yes h8] at E1 E2
      refine ⟨_, _, true, E1, E2, fun _ => ⟨tx (red (A, B)).1, tx (red (A, B)).2, tx (red (C, D)).1, tx (red (C, D)).2, tx (red (hv (A, B) one)).1, tx (red (hv (A, B) one)).2, tx (red (hv one (C, D))).1, tx (red (hv one (C, D))).2, ?_, ?_, ?_, nReduced_yes A B h1 h2, nReduced_yes C D h3 h4, ?_, ?_⟩⟩
      · have hb : (red (hv (A, B) (C, D))).1.carets = (red (hv (A, B) (C, D))).2.carets := (hp.hv hq).red
        have := implSplit_yes _ _ hb (by omega)
        rw [show ((red (hv (A, B) (C, D))).1, (red (hv (A, B) (C, D))).2) = red (hv (A, B) (C, D)) from rfl, red_red, split_hv hp hq] at this
        exact this
      · have l8 := (hv_carets_le hp hq h8).1
        have := HalvesPair_yes A B .leaf .leaf h1 h2 rfl (by decide)
        rw [show (Tr.node A .leaf, Tr.node B .leaf) = hv (A, B) one from rfl, ifP_yes l8] at this
        exact this
      · have l8 := (hv_carets_le hp hq h8).2
        have := HalvesPair_yes .leaf .leaf C D rfl (by decide) h3 h4
        rw [show (Tr.node .leaf C, Tr.node .leaf D) = hv one (C, D) from rfl, ifP_yes l8] at this
        exact this
      · have l8 := hv_carets_le hp hq h8
        have e1 : (red (hv (A, B) one)).1.carets = (red (hv (A, B) one)).2.carets := (hp.hv Bal.one).red
        have e2 : (red (hv one (C, D))).1.carets = (red (hv one (C, D))).2.carets := (Bal.one.hv hq).red
        have := ProductPair_yes _ _ _ _ e1 (by omega) e2 (by omega)
        rw [show ((red (hv (A, B) one)).1, (red (hv (A, B) one)).2) = red (hv (A, B) one) from rfl, show ((red (hv one (C, D))).1, (red (hv one (C, D))).2) = red (hv one (C, D)) from rfl, (mul_halves hp hq).1, ifP_yes h8] at this
        exact this
      · have l8 := hv_carets_le hp hq h8
        have e1 : (red (hv (A, B) one)).1.carets = (red (hv (A, B) one)).2.carets := (hp.hv Bal.one).red
        have e2 : (red (hv one (C, D))).1.carets = (red (hv one (C, D))).2.carets := (Bal.one.hv hq).red
        have := ProductPair_yes _ _ _ _ e2 (by omega) e1 (by omega)
        rw [show ((red (hv (A, B) one)).1, (red (hv (A, B) one)).2) = red (hv (A, B) one) from rfl, show ((red (hv one (C, D))).1, (red (hv one (C, D))).2) = red (hv one (C, D)) from rfl, (mul_halves hp hq).2, ifP_yes h8] at this
        exact this
    · rw [ifP_no h8] at E1 E2
      exact ⟨_, _, false, E1, E2, (fun h => by cases h)⟩
  · exact ⟨_, _, false, HalvesPair_no _ _ _ _ h, specHalvesPair_no _ _ _ _ h, (fun h => by cases h)⟩

/-- What the calls on a pair give: halves, the value at one half. -/
structure HalS (s t a b c d : ByteArray) (f : Bool) (X Y : Int) (three : Bool) : Prop where
  h1 : ∀ w, Calls Tryz.prog 9 #[pv s t] w fun e w' => e = .returned (.tuple #[pv a b, pv c d, .bool f]) ∧ Ext w w'
  h2 : ∀ w, Calls Tryz.prog 14 #[pv s t] w fun e w' => e = .returned (.tuple #[pv a b, pv c d, .bool f]) ∧ Ext w w'
  v1 : ∀ w, Calls Tryz.prog 15 #[pv s t, .agg #[.int .i64 1, .int .i64 2]] w fun e w' => e = .returned (.tuple #[.agg #[.int .i64 X, .int .i64 Y], .bool three]) ∧ Ext w w'
  eq : three = true → f = ((X == 1) && (Y == 2))
  more : f = true → ∃ u v, (∀ w, Calls Tryz.prog 7 #[pv a b, pv c d] w fun e w' => e = .returned (.tuple #[pv u v, .bool true]) ∧ Ext w w') ∧
    ∀ w, Calls Tryz.prog 11 #[pv s t] w fun e w' => e = .returned (pv u v) ∧ Ext w w'
theorem frV_half (V : Nat) : ∃ (X Y : Int) (three : Bool), FrV (frF V) = .tuple #[.agg #[.int .i64 X, .int .i64 Y], .bool three] ∧ (three = true → ((X == 1) && (Y == 2)) = decide (V = part 1)) := by
  unfold frF
  split
  · refine ⟨_, _, true, rfl, fun _ => ?_⟩
    have h := halve_half V
    rcases e : halve 40 V 1099511627776 with ⟨m, k⟩
    rw [e] at h
    by_cases hV : V = part 1
    · have := h.2 hV
      injection this with h1 h2
      subst h1 h2
      rw [decide_eq_true hV]; rfl
    · rw [decide_eq_false hV]
      cases hc : (((m : Nat) : Int) == 1 && ((k : Nat) : Int) == 2) with
      | false => rfl
      | true =>
        simp at hc
        exact absurd (h.1 (by rw [show m = 1 by omega, show k = 2 by omega])) hV
  · exact ⟨_, _, false, rfl, (fun h => by cases h)⟩
theorem halS_of (s t : ByteArray) : ∃ a b c d f X Y three, HalS s t a b c d f X Y three := by
  by_cases h : Good s t
  · obtain ⟨A, B, rfl, rfl, h1, h2⟩ := h
    have hp : Bal (A, B) := h1
    have E1 := implSplit_yes A B h1 h2
    have E2 := specSplit_yes A B h1 h2
    have V1 := implVal_yes A B h1 h2 1 1 (by decide) (by decide) (by decide)
    obtain ⟨X, Y, three, eV, hV⟩ := frV_half (vaF A B (1 * part 1))
    rw [eV] at V1
    rw [Nat.one_mul] at hV
    have hh := half_value A B h1 h2
    have hs := split_red hp
    cases e : splitT (red (A, B)) with
    | none =>
      rw [e] at E1 E2 hs
      refine ⟨_, _, _, _, false, X, Y, three, E1, E2, V1, fun h3 => ?_, (fun h => by cases h)⟩
      rw [hV h3, eq_comm, decide_eq_false_iff_not, hh]
      intro h4
      rw [← hs] at h4
      cases h4
    | some ab =>
      obtain ⟨a, b⟩ := ab
      rw [e] at E1 E2 hs
      obtain ⟨ha, hb, hab⟩ := split_back hp e
      refine ⟨_, _, _, _, true, X, Y, three, E1, E2, V1, fun h3 => ?_, fun _ => ⟨tx (red (A, B)).1, tx (red (A, B)).2, ?_, nReduced_yes A B h1 h2⟩⟩
      · rw [hV h3, eq_comm, decide_eq_true_iff, hh, ← hs]; rfl
      · have r8 := red8 h1 h2
        have hle : a.2.carets ≤ 8 ∧ b.2.carets ≤ 8 := by
          rcases e2 : red (A, B) with ⟨P, Q⟩
          rw [e2] at e r8
          simp only at r8
          cases P with
          | leaf => simp only [splitT, Option.some.injEq, Prod.mk.injEq] at e; obtain ⟨rfl, rfl⟩ := e; exact ⟨by decide, by decide⟩
          | node l r =>
            cases Q with
            | leaf => simp [splitT] at e
            | node c d =>
              simp only [splitT] at e
              split at e
              · simp only [Option.some.injEq, Prod.mk.injEq] at e
                obtain ⟨rfl, rfl⟩ := e
                simp only [Tr.carets] at r8
                simp only
                omega
              · cases e
        have := HalvesPair_yes a.1 a.2 b.1 b.2 ha hle.1 hb hle.2
        rw [show (Tr.node a.1 b.1, Tr.node a.2 b.2) = hv a b from rfl, hab, ifP_yes (by omega)] at this
        exact this
  · exact ⟨_, _, _, _, false, 0, 0, false, implSplit_no s t h, specSplit_no s t h, implVal_noPair s t 1 2 h, (fun h => by cases h), (fun h => by cases h)⟩

/-- What the calls on a shifted pair give. -/
structure HalT (s t x y : ByteArray) (b : Bool) (X Y : Int) (f : Bool) : Prop where
  h1 : ∀ w, Calls Tryz.prog 17 #[pv s t] w fun e w' => e = .returned (.tuple #[pv x y, .bool b]) ∧ Ext w w'
  h2 : ∀ w, Calls Tryz.prog 18 #[pv s t] w fun e w' => e = .returned (.tuple #[pv x y, .bool b]) ∧ Ext w w'
  u1 : ∀ w, Calls Tryz.prog 19 #[pv s t] w fun e w' => e = .returned (.tuple #[.int .i64 X, .int .i64 Y, .bool f]) ∧ Ext w w'
  u2 : ∀ w, Calls Tryz.prog 20 #[pv s t] w fun e w' => e = .returned (.tuple #[.int .i64 X, .int .i64 Y, .bool f]) ∧ Ext w w'
  more : b = true → ∃ g1 g2 z1 z2 c, (∀ w, Calls Tryz.prog 21 #[.int .i64 0] w fun e w' => e = .returned (.tuple #[pv g1 g2, .bool true]) ∧ Ext w w') ∧
    (∀ w, Calls Tryz.prog 22 #[pv x y, pv g1 g2] w fun e w' => e = .returned (.tuple #[pv z1 z2, .bool c]) ∧ Ext w w') ∧
    (∀ w, Calls Tryz.prog 17 #[pv x y] w fun e w' => e = .returned (.tuple #[pv z1 z2, .bool c]) ∧ Ext w w') ∧
    (∀ w, Calls Tryz.prog 19 #[pv x y] w fun e w' => e = .returned (.tuple #[.int .i64 0, .int .i64 (X + Y), .bool true]) ∧ Ext w w')
  small : -1000000 ≤ X ∧ X ≤ 1000000 ∧ -1000000 ≤ Y ∧ Y ≤ 1000000
theorem sums_small (A B : Tr) (h1 : A.carets = B.carets) (h2 : B.carets ≤ 8) : -1000000 ≤ (sumW (wordP (A, B))).1 ∧ (sumW (wordP (A, B))).1 ≤ 1000000 ∧ -1000000 ≤ (sumW (wordP (A, B))).2 ∧ (sumW (wordP (A, B))).2 ≤ 1000000 := by
  have := sumW_bound (wordP (A, B)) (wordP (A, B)).length (Nat.le_refl _)
  rw [List.take_length] at this
  have l1 := wordL_length A
  have l2 := wordL_length B
  have hl : (wordP (A, B)).length ≤ 144 := by
    unfold wordP
    rw [List.length_append, invL_length]
    have : A.carets * (A.carets + 1) ≤ 8 * 9 := Nat.mul_le_mul (by omega) (by omega)
    have : B.carets * (B.carets + 1) ≤ 8 * 9 := Nat.mul_le_mul (by omega) (by omega)
    simp only at *
    omega
  omega
theorem halT_of (s t : ByteArray) : ∃ x y b X Y f, HalT s t x y b X Y f := by
  by_cases h : Good s t
  · obtain ⟨A, B, rfl, rfl, h1, h2⟩ := h
    have hp : Bal (A, B) := h1
    have E1 : ∀ w, Calls Tryz.prog 17 #[pv (tx A) (tx B)] w fun e w' => e = .returned (ifP (red (hv one (A, B)))) ∧ Ext w w' := ShiftPair_yes A B h1 h2
    have E2 : ∀ w, Calls Tryz.prog 18 #[pv (tx A) (tx B)] w fun e w' => e = .returned (ifP (red (hv one (A, B)))) ∧ Ext w w' := specShiftPair_yes A B h1 h2
    have r8 := red8 h1 h2
    have sm := sums_small _ _ r8.1 r8.2
    rw [show ((red (A, B)).1, (red (A, B)).2) = red (A, B) from rfl] at sm
    by_cases h8 : (red (hv one (A, B))).1.carets ≤ 8
    · rw [ifP_yes h8] at E1 E2
      have hs : (red (hv one (A, B))).1.carets = (red (hv one (A, B))).2.carets := (Bal.one.hv hp).red
      obtain ⟨z1, z2, c, hz⟩ := ifP_two (red (hv one (red (hv one (A, B)))))
      have K1 := ConjugatePair_yes _ _ (gen 0).1 (gen 0).2 hs (by omega) rfl (by decide)
      rw [show ((red (hv one (A, B))).1, (red (hv one (A, B))).2) = red (hv one (A, B)) from rfl, show ((gen 0).1, (gen 0).2) = gen 0 from rfl, conj_shift hp, hz] at K1
      have K2 : ∀ w, Calls Tryz.prog 17 #[pv (tx (red (hv one (A, B))).1) (tx (red (hv one (A, B))).2)] w fun e w' => e = .returned (ifP (red (hv one (red (hv one (A, B)))))) ∧ Ext w w' := ShiftPair_yes _ _ hs (by omega)
      rw [hz] at K2
      have K3 := implSums_yes _ _ hs (by omega)
      have ss := sums_shift hp
      rw [show ((red (hv one (A, B))).1, (red (hv one (A, B))).2) = red (hv one (A, B)) from rfl] at K3
      refine ⟨_, _, true, _, _, true, E1, E2, implSums_yes A B h1 h2, specSums_yes A B h1 h2, fun _ => ⟨_, _, z1, z2, c, fun w => GeneratorPair_yes 0 (by omega) w, K1, K2, ?_⟩, sm⟩
      rw [← ss.1, ← ss.2]
      exact K3
    · rw [ifP_no h8] at E1 E2
      exact ⟨_, _, false, _, _, true, E1, E2, implSums_yes A B h1 h2, specSums_yes A B h1 h2, (fun h => by cases h), sm⟩
  · exact ⟨_, _, false, 0, 0, false, ShiftPair_no s t h, specShiftPair_no s t h, implSums_no s t h, specSums_no s t h, (fun h => by cases h), by decide⟩
end Go.Proofs.YtpmmajfdcicjiaaGreat.N
/- FnHalvesAndShifts: the walk (printed by mk/et.py). -/
namespace Go.Proofs.YtpmmajfdcicjiaaGreat.N
open Go.RowKit
set_option linter.unusedVariables false
set_option linter.unusedSimpArgs false

theorem fr_eql (N1 N2 : Int) (w : World) : (binOp .eql 36 (.agg #[.int .i64 N1, .int .i64 N2]) (.agg #[.int .i64 1, .int .i64 2])).run Tryz.prog w = .ok (.bool ((N1 == 1) && (N2 == 2))) w := by
  cases h1 : (N1 == 1) <;> cases h2 : (N2 == 2)
  all_goals simp [go_sem, h1, h2]
theorem two_new (w : World) (a b : Obj) : ((w.alloc a).alloc b).heap[w.heap.size]? = some a ∧ ((w.alloc a).alloc b).heap[w.heap.size + 1]? = some b := by
  refine ⟨((Ext.refl (w.alloc a)).alloc b).at (heap_alloc_new w a), ?_⟩
  have h := heap_alloc_new (w.alloc a) b
  rw [show (w.alloc a).heap.size = w.heap.size + 1 from Array.size_push _] at h
  exact h
set_option maxHeartbeats 12800000 in
set_option maxRecDepth 100000 in
theorem walk_halves (n m : Nat) (v u : Value) (w : World) (hn : BytesR w v n) (hm : BytesR w u m) (hb : bigB n m = false) :
    Calls Tryz.prog 3 #[v, u] w fun e w' => e = .returned (.bool true) ∧ Ext w w' := by
  have CB := Lib.hid (fun A B c d W => big_calls n m (by obtain ⟨_, _, _, h, _⟩ := hm; omega) A B c d W)
  rw [hb] at CB
  have D1 := Lib.hid (drawHP_calls v n w hn)
  have D2 := Lib.hid (fun W (h : Ext w W) => drawSH_calls u m W (hm.ext h))
  have D3 := Lib.hid (fun W (h : Ext w W) => drawSP_calls u m W (hm.ext h))
  have CI : Hid (∀ W, Calls Tryz.prog 10 #[] W fun e w' => e = .returned (.agg #[.string ⟨#[46]⟩, .string ⟨#[46]⟩]) ∧ Ext W w') := fun W => IdentityPair_calls W
  obtain ⟨A, c, rfl, _, _⟩ := hn
  obtain ⟨B, d, rfl, _, _⟩ := hm
  clear hb
  go_enter Tryz.func3, Tryz.ntmps3
  go_wp2_with fail
  refine (CB.out _ _ _ _ _).mono ?_
  rintro e w0 ⟨rfl, rfl⟩
  go_wp2_with fail
  refine (D1.out).mono ?_
  rintro e w1 ⟨s1, t1, s2, t2, rfl, x2⟩
  have X := Lib.hid (Ext.refl w)
  obtain ⟨x, y, b, F⟩ := halF_of s1 t1 s2 t2
  have H1 := F.h1
  simp only [pv] at H1
  have H1 := Lib.hid H1
  have H2 := F.h2
  simp only [pv] at H2
  have H2 := Lib.hid H2
  have F := Lib.hid F
  have xa : Ext w1 ((w1.alloc (.cells #[.string s1, .string t1] 25)).alloc (.cells #[.string s2, .string t2] 25)) := ((Ext.refl _).alloc _).alloc _
  have xx := x2.trans xa
  have B5 : Hid (((w1.alloc (.cells #[.string s1, .string t1] 25)).alloc (.cells #[.string s2, .string t2] 25)).heap[w1.heap.size]? = some (.cells #[.string s1, .string t1] 25)) := (two_new w1 _ _).1
  have B6 : Hid (((w1.alloc (.cells #[.string s1, .string t1] 25)).alloc (.cells #[.string s2, .string t2] 25)).heap[w1.heap.size + 1]? = some (.cells #[.string s2, .string t2] 25)) := (two_new w1 _ _).2
  have X := Lib.hid (X.out.trans xx)
  clear xx x2 xa
  obtain ⟨c00, c01⟩ := cells_of B5.out
  obtain ⟨c10, c11⟩ := cells_of B6.out
  go_wp2_with fail
  generalize ((w1.alloc (.cells #[.string s1, .string t1] 25)).alloc (.cells #[.string s2, .string t2] 25)) = w2 at *
  clear c00 c01 c10 c11
  refine (H1.out _).mono ?_
  rintro e w3 ⟨rfl, x2⟩
  have xa : Ext w3 (w3.alloc (.cells #[.string x, .string y] 25)) := (Ext.refl _).alloc _
  have xx := x2.trans xa
  have B5 := Lib.hid (xx.at B5.out)
  have B6 := Lib.hid (xx.at B6.out)
  have B7 : Hid ((w3.alloc (.cells #[.string x, .string y] 25)).heap[w3.heap.size]? = some (.cells #[.string x, .string y] 25)) := heap_alloc_new w3 _
  have X := Lib.hid (X.out.trans xx)
  clear xx x2 xa
  obtain ⟨c00, c01⟩ := cells_of B5.out
  obtain ⟨c10, c11⟩ := cells_of B6.out
  go_wp2_with fail
  generalize (w3.alloc (.cells #[.string x, .string y] 25)) = w4 at *
  clear c00 c01 c10 c11
  refine (H2.out _).mono ?_
  rintro e w5 ⟨rfl, x2⟩
  have xa : Ext w5 (w5.alloc (.cells #[.string x, .string y] 25)) := (Ext.refl _).alloc _
  have xx := x2.trans xa
  have B5 := Lib.hid (xx.at B5.out)
  have B6 := Lib.hid (xx.at B6.out)
  have B7 := Lib.hid (xx.at B7.out)
  have B9 : Hid ((w5.alloc (.cells #[.string x, .string y] 25)).heap[w5.heap.size]? = some (.cells #[.string x, .string y] 25)) := heap_alloc_new w5 _
  have X := Lib.hid (X.out.trans xx)
  clear xx x2 xa
  obtain ⟨c00, c01⟩ := cells_of B7.out
  obtain ⟨c10, c11⟩ := cells_of B9.out
  go_upto_if 82 with fail
  generalize (w5.alloc (.cells #[.string x, .string y] 25)) = w6 at *
  clear c00 c01 c10 c11
  clear H1 H2
  go_cut [] from 11 (fun wx => Ext w6 wx)
  case first =>
   as_aux_lemma =>
    cases b
    · go_wp2_with fail
      go_meet
      exact Ext.refl _
    · obtain ⟨a1, a2, b1, b2, fa, fb, ga, gb, K1, K2, K3, K4, K5, K6, K7⟩ := F.out.more rfl
      simp only [pv] at K1 K2 K3 K4 K5 K6 K7
      have K1 := Lib.hid K1
      have K2 := Lib.hid K2
      have K3 := Lib.hid K3
      have K4 := Lib.hid K4
      have K5 := Lib.hid K5
      have K6 := Lib.hid K6
      have K7 := Lib.hid K7
      have X0 := X
      clear X
      have X := Lib.hid (Ext.refl w6)
      obtain ⟨c00, c01⟩ := cells_of B7.out
      go_wp2_with fail
      clear c00 c01
      refine (K1.out _).mono ?_
      rintro e w7 ⟨rfl, x2⟩
      have xa : Ext w7 ((w7.alloc (.cells #[.string a1, .string a2] 25)).alloc (.cells #[.string b1, .string b2] 25)) := ((Ext.refl _).alloc _).alloc _
      have xx := x2.trans xa
      have B5 := Lib.hid (xx.at B5.out)
      have B6 := Lib.hid (xx.at B6.out)
      have B7 := Lib.hid (xx.at B7.out)
      have B11 : Hid (((w7.alloc (.cells #[.string a1, .string a2] 25)).alloc (.cells #[.string b1, .string b2] 25)).heap[w7.heap.size]? = some (.cells #[.string a1, .string a2] 25)) := (two_new w7 _ _).1
      have B12 : Hid (((w7.alloc (.cells #[.string a1, .string a2] 25)).alloc (.cells #[.string b1, .string b2] 25)).heap[w7.heap.size + 1]? = some (.cells #[.string b1, .string b2] 25)) := (two_new w7 _ _).2
      have X := Lib.hid (X.out.trans xx)
      clear xx x2 xa
      go_upto_region 10 with fail
      generalize ((w7.alloc (.cells #[.string a1, .string a2] 25)).alloc (.cells #[.string b1, .string b2] 25)) = w8 at *
      obtain ⟨c00, c01⟩ := cells_of B5.out
      have KX : ∀ w', Ext w8 w' → w'.cell? ⟨w1.heap.size, 0, none⟩ = some (.string s1) ∧ w'.cell? ⟨w1.heap.size, 1, none⟩ = some (.string t1) := fun w' h => ⟨h.cell c00, h.cell c01⟩
      go_cut [14, 15] from 89 (fun a d wx => ∃ g, a = .pointer (some ⟨g, 0, none⟩) ∧ d = .bool true ∧ wx.heap[g]? = some (.cells #[.string fa, .string fb] 25) ∧ Ext w8 wx)
      case first =>
       as_aux_lemma =>
        go_region_held3 (fun w' => w'.cell? ⟨w1.heap.size, 0, none⟩ = some (.string s1) ∧ w'.cell? ⟨w1.heap.size, 1, none⟩ = some (.string t1))
          (first | with_reducible exact KX _ (Ext.refl _).drew | with_reducible exact KX _ ((Ext.refl _).alloc _).drew | with_reducible exact KX _ ((Ext.refl _).drew.alloc _) | with_reducible exact KX _ x3 | with_reducible exact KX _ (x3.alloc _) | with_reducible exact KX _ x6 | with_reducible exact KX _ (x6.alloc _) | exact KX _ (x6.set2 hg (.string fa) (.string fb)) | fail)
          (first
            | (go_at_call 10; with_reducible refine (CI.out _).mono ?_; rintro e w31 ⟨rfl, hx3⟩; first | (with_reducible have x3 := (Ext.refl w8).drew.trans hx3) | (have TW := ((Two.new w8 (.string ⟨#[]⟩) (.string ⟨#[]⟩) 25 rfl).ext (Ext.refl _).drew).ext hx3; have hg := Nat.le_refl w8.heap.size; have x3 := ((Ext.refl w8).alloc _).drew.trans hx3))
            | (go_at_call 7; with_reducible refine (K2.out _).mono ?_; rintro e w32 ⟨rfl, hx6⟩; first | (with_reducible have x6 := x3.trans hx6; (first | (with_reducible have TW6 := TW.ext hx6; obtain ⟨u, v, k0, k1, f0, f1⟩ := TW6.facts) | skip)) | (have TW6 := (Two.new w31 (.string ⟨#[]⟩) (.string ⟨#[]⟩) 25 rfl).ext hx6; have hg := Ext.heap x3; have x6 := (x3.alloc _).trans hx6; obtain ⟨u, v, k0, k1, f0, f1⟩ := TW6.facts))
            | fail)
        all_goals
          go_wp2_with fail
          go_meet
          first
            | exact ⟨_, rfl, rfl, heap_alloc_new w32 _, x6.alloc _⟩
            | exact ⟨_, rfl, rfl, set2_heap TW6 (.string fa) (.string fb), x6.set2 hg (.string fa) (.string fb)⟩
      case rest =>
      obtain ⟨qB14, rfl, rfl, B14, xx⟩ := hcut
      have B14 := Lib.hid B14
      have B5 := Lib.hid (xx.at B5.out)
      have B6 := Lib.hid (xx.at B6.out)
      have B7 := Lib.hid (xx.at B7.out)
      have B11 := Lib.hid (xx.at B11.out)
      have B12 := Lib.hid (xx.at B12.out)
      have X := Lib.hid (X.out.trans xx)
      clear xx KX c00 c01
      generalize wc = w9 at *
      go_upto_region 11 with fail
      obtain ⟨c00, c01⟩ := cells_of B6.out
      have KX : ∀ w', Ext w9 w' → w'.cell? ⟨w1.heap.size + 1, 0, none⟩ = some (.string s2) ∧ w'.cell? ⟨w1.heap.size + 1, 1, none⟩ = some (.string t2) := fun w' h => ⟨h.cell c00, h.cell c01⟩
      go_cut [16, 17] from 95 (fun a d wx => ∃ g, a = .pointer (some ⟨g, 0, none⟩) ∧ d = .bool true ∧ wx.heap[g]? = some (.cells #[.string ga, .string gb] 25) ∧ Ext w9 wx)
      case first =>
       as_aux_lemma =>
        go_region_held3 (fun w' => w'.cell? ⟨w1.heap.size + 1, 0, none⟩ = some (.string s2) ∧ w'.cell? ⟨w1.heap.size + 1, 1, none⟩ = some (.string t2))
          (first | with_reducible exact KX _ (Ext.refl _).drew | with_reducible exact KX _ ((Ext.refl _).alloc _).drew | with_reducible exact KX _ ((Ext.refl _).drew.alloc _) | with_reducible exact KX _ x3 | with_reducible exact KX _ (x3.alloc _) | with_reducible exact KX _ x6 | with_reducible exact KX _ (x6.alloc _) | exact KX _ (x6.set2 hg (.string ga) (.string gb)) | fail)
          (first
            | (go_at_call 10; with_reducible refine (CI.out _).mono ?_; rintro e w31 ⟨rfl, hx3⟩; first | (with_reducible have x3 := (Ext.refl w9).drew.trans hx3) | (have TW := ((Two.new w9 (.string ⟨#[]⟩) (.string ⟨#[]⟩) 25 rfl).ext (Ext.refl _).drew).ext hx3; have hg := Nat.le_refl w9.heap.size; have x3 := ((Ext.refl w9).alloc _).drew.trans hx3))
            | (go_at_call 7; with_reducible refine (K3.out _).mono ?_; rintro e w32 ⟨rfl, hx6⟩; first | (with_reducible have x6 := x3.trans hx6; (first | (with_reducible have TW6 := TW.ext hx6; obtain ⟨u, v, k0, k1, f0, f1⟩ := TW6.facts) | skip)) | (have TW6 := (Two.new w31 (.string ⟨#[]⟩) (.string ⟨#[]⟩) 25 rfl).ext hx6; have hg := Ext.heap x3; have x6 := (x3.alloc _).trans hx6; obtain ⟨u, v, k0, k1, f0, f1⟩ := TW6.facts))
            | fail)
        all_goals
          go_wp2_with fail
          go_meet
          first
            | exact ⟨_, rfl, rfl, heap_alloc_new w32 _, x6.alloc _⟩
            | exact ⟨_, rfl, rfl, set2_heap TW6 (.string ga) (.string gb), x6.set2 hg (.string ga) (.string gb)⟩
      case rest =>
      obtain ⟨qB16, rfl, rfl, B16, xx⟩ := hcut
      have B16 := Lib.hid B16
      have B5 := Lib.hid (xx.at B5.out)
      have B6 := Lib.hid (xx.at B6.out)
      have B7 := Lib.hid (xx.at B7.out)
      have B11 := Lib.hid (xx.at B11.out)
      have B12 := Lib.hid (xx.at B12.out)
      have B14 := Lib.hid (xx.at B14.out)
      have X := Lib.hid (X.out.trans xx)
      clear xx KX c00 c01
      generalize wc = w10 at *
      go_upto_region 12 with fail
      obtain ⟨c00, c01⟩ := cells_of B11.out
      obtain ⟨c10, c11⟩ := cells_of B5.out
      obtain ⟨c20, c21⟩ := cells_of B12.out
      obtain ⟨c30, c31⟩ := cells_of B6.out
      have KX : ∀ w', Ext w10 w' → w'.cell? ⟨w7.heap.size, 0, none⟩ = some (.string a1) ∧ w'.cell? ⟨w7.heap.size, 1, none⟩ = some (.string a2) ∧ w'.cell? ⟨w1.heap.size, 0, none⟩ = some (.string s1) ∧ w'.cell? ⟨w1.heap.size, 1, none⟩ = some (.string t1) ∧ w'.cell? ⟨w7.heap.size + 1, 0, none⟩ = some (.string b1) ∧ w'.cell? ⟨w7.heap.size + 1, 1, none⟩ = some (.string b2) ∧ w'.cell? ⟨w1.heap.size + 1, 0, none⟩ = some (.string s2) ∧ w'.cell? ⟨w1.heap.size + 1, 1, none⟩ = some (.string t2) := fun w' h => ⟨h.cell c00, h.cell c01, h.cell c10, h.cell c11, h.cell c20, h.cell c21, h.cell c30, h.cell c31⟩
      go_cut [122] from 101 (fun d wx => d = .bool false ∧ Ext w10 wx)
      case first =>
       as_aux_lemma =>
        go_region_held3 (fun w' => w'.cell? ⟨w7.heap.size, 0, none⟩ = some (.string a1) ∧ w'.cell? ⟨w7.heap.size, 1, none⟩ = some (.string a2) ∧ w'.cell? ⟨w1.heap.size, 0, none⟩ = some (.string s1) ∧ w'.cell? ⟨w1.heap.size, 1, none⟩ = some (.string t1) ∧ w'.cell? ⟨w7.heap.size + 1, 0, none⟩ = some (.string b1) ∧ w'.cell? ⟨w7.heap.size + 1, 1, none⟩ = some (.string b2) ∧ w'.cell? ⟨w1.heap.size + 1, 0, none⟩ = some (.string s2) ∧ w'.cell? ⟨w1.heap.size + 1, 1, none⟩ = some (.string t2))
          (first | with_reducible exact KX _ (Ext.refl _).drew | with_reducible exact KX _ x3 | with_reducible exact KX _ x6 | fail)
          (first
            | (go_at_call 11; with_reducible refine (K4.out _).mono ?_; rintro e w31 ⟨rfl, hx3⟩; have x3 := (Ext.refl w10).drew.trans hx3)
            | (go_at_call 11; with_reducible refine (K5.out _).mono ?_; rintro e w32 ⟨rfl, hx6⟩; have x6 := x3.trans hx6)
            | fail)
        all_goals
          go_wp2_with fail
          go_meet
          exact ⟨rfl, x6⟩
      case rest =>
      obtain ⟨rfl, xx⟩ := hcut
      have B5 := Lib.hid (xx.at B5.out)
      have B6 := Lib.hid (xx.at B6.out)
      have B7 := Lib.hid (xx.at B7.out)
      have B11 := Lib.hid (xx.at B11.out)
      have B12 := Lib.hid (xx.at B12.out)
      have B14 := Lib.hid (xx.at B14.out)
      have B16 := Lib.hid (xx.at B16.out)
      have X := Lib.hid (X.out.trans xx)
      clear xx KX c00 c01 c10 c11 c20 c21 c30 c31
      generalize wc = w11 at *
      obtain ⟨c00, c01⟩ := cells_of B14.out
      obtain ⟨c10, c11⟩ := cells_of B16.out
      go_wp2_with fail
      clear c00 c01 c10 c11
      refine (K6.out _).mono ?_
      rintro e w12 ⟨rfl, x2⟩
      have xa : Ext w12 (w12.alloc (.cells #[.string x, .string y] 25)) := (Ext.refl _).alloc _
      have xx := x2.trans xa
      have B5 := Lib.hid (xx.at B5.out)
      have B6 := Lib.hid (xx.at B6.out)
      have B7 := Lib.hid (xx.at B7.out)
      have B11 := Lib.hid (xx.at B11.out)
      have B12 := Lib.hid (xx.at B12.out)
      have B14 := Lib.hid (xx.at B14.out)
      have B16 := Lib.hid (xx.at B16.out)
      have B18 : Hid ((w12.alloc (.cells #[.string x, .string y] 25)).heap[w12.heap.size]? = some (.cells #[.string x, .string y] 25)) := heap_alloc_new w12 _
      have X := Lib.hid (X.out.trans xx)
      clear xx x2 xa
      obtain ⟨c00, c01⟩ := cells_of B14.out
      obtain ⟨c10, c11⟩ := cells_of B16.out
      go_wp2_with fail
      generalize (w12.alloc (.cells #[.string x, .string y] 25)) = w13 at *
      clear c00 c01 c10 c11
      refine (K7.out _).mono ?_
      rintro e w14 ⟨rfl, x2⟩
      have xa : Ext w14 (w14.alloc (.cells #[.string x, .string y] 25)) := (Ext.refl _).alloc _
      have xx := x2.trans xa
      have B5 := Lib.hid (xx.at B5.out)
      have B6 := Lib.hid (xx.at B6.out)
      have B7 := Lib.hid (xx.at B7.out)
      have B11 := Lib.hid (xx.at B11.out)
      have B12 := Lib.hid (xx.at B12.out)
      have B14 := Lib.hid (xx.at B14.out)
      have B16 := Lib.hid (xx.at B16.out)
      have B18 := Lib.hid (xx.at B18.out)
      have B20 : Hid ((w14.alloc (.cells #[.string x, .string y] 25)).heap[w14.heap.size]? = some (.cells #[.string x, .string y] 25)) := heap_alloc_new w14 _
      have X := Lib.hid (X.out.trans xx)
      clear xx x2 xa
      obtain ⟨c00, c01⟩ := cells_of B18.out
      obtain ⟨c10, c11⟩ := cells_of B20.out
      obtain ⟨c20, c21⟩ := cells_of B7.out
      go_wp2_with fail
      go_meet
      exact X.out
  case rest =>
  have X := Lib.hid (X.out.trans hcut)
  clear hcut B5 B6 B7 B9 F CI
  generalize wc = w7 at *
  as_aux_lemma =>
  go_wp2_with fail
  refine (D2.out _ X.out).mono ?_
  rintro e w8 ⟨s, t, rfl, x2⟩
  obtain ⟨a1, a2, b1, b2, f, N1, N2, three, G⟩ := halS_of s t
  have H1 := G.h1
  simp only [pv] at H1
  have H1 := Lib.hid H1
  have H2 := G.h2
  simp only [pv] at H2
  have H2 := Lib.hid H2
  have V1 := G.v1
  simp only [pv] at V1
  have V1 := Lib.hid V1
  have G := Lib.hid G
  have xa : Ext w8 (w8.alloc (.cells #[.string s, .string t] 25)) := (Ext.refl _).alloc _
  have xx := x2.trans xa
  have B22 : Hid ((w8.alloc (.cells #[.string s, .string t] 25)).heap[w8.heap.size]? = some (.cells #[.string s, .string t] 25)) := heap_alloc_new w8 _
  have X := Lib.hid (X.out.trans xx)
  clear xx x2 xa
  obtain ⟨c00, c01⟩ := cells_of B22.out
  go_wp2_with fail
  generalize (w8.alloc (.cells #[.string s, .string t] 25)) = w9 at *
  clear c00 c01
  refine (H1.out _).mono ?_
  rintro e w10 ⟨rfl, x2⟩
  have xa : Ext w10 ((w10.alloc (.cells #[.string a1, .string a2] 25)).alloc (.cells #[.string b1, .string b2] 25)) := ((Ext.refl _).alloc _).alloc _
  have xx := x2.trans xa
  have B22 := Lib.hid (xx.at B22.out)
  have B23 : Hid (((w10.alloc (.cells #[.string a1, .string a2] 25)).alloc (.cells #[.string b1, .string b2] 25)).heap[w10.heap.size]? = some (.cells #[.string a1, .string a2] 25)) := (two_new w10 _ _).1
  have B24 : Hid (((w10.alloc (.cells #[.string a1, .string a2] 25)).alloc (.cells #[.string b1, .string b2] 25)).heap[w10.heap.size + 1]? = some (.cells #[.string b1, .string b2] 25)) := (two_new w10 _ _).2
  have X := Lib.hid (X.out.trans xx)
  clear xx x2 xa
  obtain ⟨c00, c01⟩ := cells_of B22.out
  go_wp2_with fail
  generalize ((w10.alloc (.cells #[.string a1, .string a2] 25)).alloc (.cells #[.string b1, .string b2] 25)) = w11 at *
  clear c00 c01
  refine (H2.out _).mono ?_
  rintro e w12 ⟨rfl, x2⟩
  have xa : Ext w12 ((w12.alloc (.cells #[.string a1, .string a2] 25)).alloc (.cells #[.string b1, .string b2] 25)) := ((Ext.refl _).alloc _).alloc _
  have hsz : ((w12.alloc (.cells #[.string a1, .string a2] 25)).alloc (.cells #[.string b1, .string b2] 25)).heap.size = w12.heap.size + 1 + 1 := by rw [show ∀ (W : World) (o : Obj), (W.alloc o).heap.size = W.heap.size + 1 from fun _ _ => Array.size_push _, show ∀ (W : World) (o : Obj), (W.alloc o).heap.size = W.heap.size + 1 from fun _ _ => Array.size_push _]
  have xh : Ext ((w12.alloc (.cells #[.string a1, .string a2] 25)).alloc (.cells #[.string b1, .string b2] 25)) (((w12.alloc (.cells #[.string a1, .string a2] 25)).alloc (.cells #[.string b1, .string b2] 25)).alloc (.cells #[.int .i64 1, .int .i64 2] 36)) := (Ext.refl _).alloc _
  have B29 := heap_alloc_new ((w12.alloc (.cells #[.string a1, .string a2] 25)).alloc (.cells #[.string b1, .string b2] 25)) (.cells #[.int .i64 1, .int .i64 2] 36)
  rw [hsz] at B29
  have B29 := Lib.hid B29
  have xx := (x2.trans xa).trans xh
  have B22 := Lib.hid (x2.trans xa |>.at B22.out)
  have B23 := Lib.hid (x2.trans xa |>.at B23.out)
  have B24 := Lib.hid (x2.trans xa |>.at B24.out)
  obtain ⟨c00, c01⟩ := cells_of B23.out
  obtain ⟨c10, c11⟩ := cells_of B24.out
  obtain ⟨c20, c21⟩ := cells_of (two_new w12 (.cells #[.string a1, .string a2] 25) (.cells #[.string b1, .string b2] 25)).1
  obtain ⟨c30, c31⟩ := cells_of (two_new w12 (.cells #[.string a1, .string a2] 25) (.cells #[.string b1, .string b2] 25)).2
  have B22 := Lib.hid (xh.at B22.out)
  have B23 := Lib.hid (xh.at B23.out)
  have B24 := Lib.hid (xh.at B24.out)
  have X := Lib.hid (X.out.trans xx)
  obtain ⟨d00, d01⟩ := cells_of B22.out
  obtain ⟨d10, d11⟩ := cells_of B29.out
  clear xx x2 xa xh hsz
  go_wp2_with fail
  generalize ((w12.alloc (.cells #[.string a1, .string a2] 25)).alloc (.cells #[.string b1, .string b2] 25)).alloc (.cells #[.int .i64 1, .int .i64 2] 36) = w13 at *
  clear c00 c01 c10 c11 c20 c21 c30 c31 d00 d01 d10 d11
  refine (V1.out _).mono ?_
  rintro e w14 ⟨rfl, x2⟩
  have xa : Ext w14 (w14.alloc (.cells #[.int .i64 N1, .int .i64 N2] 36)) := (Ext.refl _).alloc _
  have xx := x2.trans xa
  have B22 := Lib.hid (xx.at B22.out)
  have B23 := Lib.hid (xx.at B23.out)
  have B24 := Lib.hid (xx.at B24.out)
  have B29 := Lib.hid (xx.at B29.out)
  have B30 : Hid ((w14.alloc (.cells #[.int .i64 N1, .int .i64 N2] 36)).heap[w14.heap.size]? = some (.cells #[.int .i64 N1, .int .i64 N2] 36)) := heap_alloc_new w14 _
  have X := Lib.hid (X.out.trans xx)
  clear xx x2 xa
  obtain ⟨c00, c01⟩ := cells_of B30.out
  obtain ⟨c10, c11⟩ := cells_of B29.out
  go_upto_region 25 with fail
  generalize (w14.alloc (.cells #[.int .i64 N1, .int .i64 N2] 36)) = w15 at *
  go_cut [192] from 185 (fun d wx => d = .bool false ∧ w15 = wx)
  case first =>
   as_aux_lemma =>
    have eq0 := G.out.eq
    cases three
    · clear eq0
      go_wp2_with fail
      go_meet
      exact ⟨rfl, rfl⟩
    · have eq := eq0 rfl
      clear eq0
      have QE : ∀ w' : World, (binOp .eql 36 (.agg #[.int .i64 N1, .int .i64 N2]) (.agg #[.int .i64 1, .int .i64 2])).run Tryz.prog w' = .ok (.bool f) w' := fun w' => (fr_eql N1 N2 w').trans (by rw [← eq])
      clear eq
      cases f
      all_goals
        go_wp2_with fail
        go_meet
        exact ⟨rfl, rfl⟩
  case rest =>
  obtain ⟨rfl, rfl⟩ := hcut
  clear c00 c01 c10 c11

  clear B29 B30 H1 H2 V1
  go_upto_if 193 with fail
  go_cut [] from 32 (fun wx => Ext w15 wx)
  case first =>
   as_aux_lemma =>
    cases f
    · go_wp2_with fail
      go_meet
      exact Ext.refl _
    · obtain ⟨uu, vv, K1, K2⟩ := G.out.more rfl
      simp only [pv] at K1 K2
      have K1 := Lib.hid K1
      have K2 := Lib.hid K2
      obtain ⟨c00, c01⟩ := cells_of B23.out
      obtain ⟨c10, c11⟩ := cells_of B24.out
      go_wp2_with fail
      clear c00 c01 c10 c11
      refine (K1.out _).mono ?_
      rintro e w16 ⟨rfl, x2⟩
      have xa : Ext w16 (w16.alloc (.cells #[.string uu, .string vv] 25)) := (Ext.refl _).alloc _
      have X9 := Lib.hid (x2.trans xa)
      obtain ⟨c00, c01⟩ := cells_of (X9.out.at B22.out)
      obtain ⟨c10, c11⟩ := cells_of (heap_alloc_new w16 (.cells #[.string uu, .string vv] 25))
      clear x2 xa
      go_upto_region 29 with fail
      generalize w16.alloc (.cells #[.string uu, .string vv] 25) = w17 at *
      have KX : ∀ w', Ext w17 w' → w'.cell? ⟨w8.heap.size, 0, none⟩ = some (.string s) ∧ w'.cell? ⟨w8.heap.size, 1, none⟩ = some (.string t) ∧ w'.cell? ⟨w16.heap.size, 0, none⟩ = some (.string uu) ∧ w'.cell? ⟨w16.heap.size, 1, none⟩ = some (.string vv) := fun w' h => ⟨h.cell c00, h.cell c01, h.cell c10, h.cell c11⟩
      go_region_held3 (fun w' => w'.cell? ⟨w8.heap.size, 0, none⟩ = some (.string s) ∧ w'.cell? ⟨w8.heap.size, 1, none⟩ = some (.string t) ∧ w'.cell? ⟨w16.heap.size, 0, none⟩ = some (.string uu) ∧ w'.cell? ⟨w16.heap.size, 1, none⟩ = some (.string vv))
        (first | with_reducible exact KX _ (Ext.refl _).drew | with_reducible exact KX _ x3 | fail)
        (first
          | (go_at_call 11; with_reducible refine (K2.out _).mono ?_; rintro e w31 ⟨rfl, hx3⟩; have x3 := (Ext.refl w17).drew.trans hx3)
          | fail)
      all_goals
        have X9 := Lib.hid (X9.out.trans x3)
        clear x3 hx3 KX c00 c01 c10 c11
        go_wp2_with fail
        go_meet
        exact X9.out
  case rest =>
  have X := Lib.hid (X.out.trans hcut)
  clear hcut B22 B23 B24 G
  generalize wc = w16 at *
  as_aux_lemma =>
  go_wp2_with fail
  refine (D3.out _ X.out).mono ?_
  rintro e w17 ⟨s3, t3, rfl, x2⟩
  obtain ⟨x3, y3, b3, X3, Y3, f3, T⟩ := halT_of s3 t3
  have H1 := T.h1
  simp only [pv] at H1
  have H1 := Lib.hid H1
  have H2 := T.h2
  simp only [pv] at H2
  have H2 := Lib.hid H2
  have U1 := T.u1
  simp only [pv] at U1
  have U1 := Lib.hid U1
  have U2 := T.u2
  simp only [pv] at U2
  have U2 := Lib.hid U2
  have T := Lib.hid T
  have xa : Ext w17 (w17.alloc (.cells #[.string s3, .string t3] 25)) := (Ext.refl _).alloc _
  have xx := x2.trans xa
  have B34 : Hid ((w17.alloc (.cells #[.string s3, .string t3] 25)).heap[w17.heap.size]? = some (.cells #[.string s3, .string t3] 25)) := heap_alloc_new w17 _
  have X := Lib.hid (X.out.trans xx)
  clear xx x2 xa
  obtain ⟨c00, c01⟩ := cells_of B34.out
  go_wp2_with fail
  generalize (w17.alloc (.cells #[.string s3, .string t3] 25)) = w18 at *
  clear c00 c01
  refine (H1.out _).mono ?_
  rintro e w19 ⟨rfl, x2⟩
  have xa : Ext w19 (w19.alloc (.cells #[.string x3, .string y3] 25)) := (Ext.refl _).alloc _
  have xx := x2.trans xa
  have B34 := Lib.hid (xx.at B34.out)
  have B35 : Hid ((w19.alloc (.cells #[.string x3, .string y3] 25)).heap[w19.heap.size]? = some (.cells #[.string x3, .string y3] 25)) := heap_alloc_new w19 _
  have X := Lib.hid (X.out.trans xx)
  clear xx x2 xa
  obtain ⟨c00, c01⟩ := cells_of B34.out
  go_wp2_with fail
  generalize (w19.alloc (.cells #[.string x3, .string y3] 25)) = w20 at *
  clear c00 c01
  refine (H2.out _).mono ?_
  rintro e w21 ⟨rfl, x2⟩
  have xa : Ext w21 (w21.alloc (.cells #[.string x3, .string y3] 25)) := (Ext.refl _).alloc _
  have xx := x2.trans xa
  have B34 := Lib.hid (xx.at B34.out)
  have B35 := Lib.hid (xx.at B35.out)
  have B37 : Hid ((w21.alloc (.cells #[.string x3, .string y3] 25)).heap[w21.heap.size]? = some (.cells #[.string x3, .string y3] 25)) := heap_alloc_new w21 _
  have X := Lib.hid (X.out.trans xx)
  clear xx x2 xa
  obtain ⟨c00, c01⟩ := cells_of B34.out
  go_wp2_with fail
  generalize (w21.alloc (.cells #[.string x3, .string y3] 25)) = w22 at *
  clear c00 c01
  refine (U1.out _).mono ?_
  rintro e w23 ⟨rfl, x2⟩
  have xx := x2
  have B34 := Lib.hid (xx.at B34.out)
  have B35 := Lib.hid (xx.at B35.out)
  have B37 := Lib.hid (xx.at B37.out)
  have X := Lib.hid (X.out.trans xx)
  clear xx x2
  obtain ⟨c00, c01⟩ := cells_of B34.out
  go_wp2_with fail
  clear c00 c01
  refine (U2.out _).mono ?_
  rintro e w24 ⟨rfl, x2⟩
  have xx := x2
  have B34 := Lib.hid (xx.at B34.out)
  have B35 := Lib.hid (xx.at B35.out)
  have B37 := Lib.hid (xx.at B37.out)
  have X := Lib.hid (X.out.trans xx)
  clear xx x2
  obtain ⟨c00, c01⟩ := cells_of B35.out
  obtain ⟨c10, c11⟩ := cells_of B37.out
  clear H1 H2 U1 U2
  cases b3
  · go_wp2_with fail
    go_ret
    exact ⟨rfl, X.out⟩
  · obtain ⟨ga, gb, z1, z2, cc, K1, K2, K3, K4⟩ := T.out.more rfl
    simp only [pv] at K1 K2 K3 K4
    have K1 := Lib.hid K1
    have K2 := Lib.hid K2
    have K3 := Lib.hid K3
    have K4 := Lib.hid K4
    have sm := T.out.small
    have wr : IntKind.i64.wrap (X3 + Y3) = X3 + Y3 := wrap_ok (by omega)
    go_wp2_with fail
    clear c00 c01 c10 c11
    refine (K1.out _).mono ?_
    rintro e w25 ⟨rfl, x2⟩
    have xa : Ext w25 (w25.alloc (.cells #[.string ga, .string gb] 25)) := (Ext.refl _).alloc _
    have xx := x2.trans xa
    have B34 := Lib.hid (xx.at B34.out)
    have B35 := Lib.hid (xx.at B35.out)
    have B37 := Lib.hid (xx.at B37.out)
    have B45 : Hid ((w25.alloc (.cells #[.string ga, .string gb] 25)).heap[w25.heap.size]? = some (.cells #[.string ga, .string gb] 25)) := heap_alloc_new w25 _
    have X := Lib.hid (X.out.trans xx)
    clear xx x2 xa
    obtain ⟨c00, c01⟩ := cells_of B35.out
    obtain ⟨c10, c11⟩ := cells_of B45.out
    go_wp2_with fail
    generalize (w25.alloc (.cells #[.string ga, .string gb] 25)) = w26 at *
    clear c00 c01 c10 c11
    refine (K2.out _).mono ?_
    rintro e w27 ⟨rfl, x2⟩
    have xa : Ext w27 (w27.alloc (.cells #[.string z1, .string z2] 25)) := (Ext.refl _).alloc _
    have xx := x2.trans xa
    have B34 := Lib.hid (xx.at B34.out)
    have B35 := Lib.hid (xx.at B35.out)
    have B37 := Lib.hid (xx.at B37.out)
    have B45 := Lib.hid (xx.at B45.out)
    have B47 : Hid ((w27.alloc (.cells #[.string z1, .string z2] 25)).heap[w27.heap.size]? = some (.cells #[.string z1, .string z2] 25)) := heap_alloc_new w27 _
    have X := Lib.hid (X.out.trans xx)
    clear xx x2 xa
    obtain ⟨c00, c01⟩ := cells_of B35.out
    go_wp2_with fail
    generalize (w27.alloc (.cells #[.string z1, .string z2] 25)) = w28 at *
    clear c00 c01
    refine (K3.out _).mono ?_
    rintro e w29 ⟨rfl, x2⟩
    have xa : Ext w29 (w29.alloc (.cells #[.string z1, .string z2] 25)) := (Ext.refl _).alloc _
    have xx := x2.trans xa
    have B34 := Lib.hid (xx.at B34.out)
    have B35 := Lib.hid (xx.at B35.out)
    have B37 := Lib.hid (xx.at B37.out)
    have B45 := Lib.hid (xx.at B45.out)
    have B47 := Lib.hid (xx.at B47.out)
    have B49 : Hid ((w29.alloc (.cells #[.string z1, .string z2] 25)).heap[w29.heap.size]? = some (.cells #[.string z1, .string z2] 25)) := heap_alloc_new w29 _
    have X := Lib.hid (X.out.trans xx)
    clear xx x2 xa
    obtain ⟨c00, c01⟩ := cells_of B35.out
    go_wp2_with fail
    generalize (w29.alloc (.cells #[.string z1, .string z2] 25)) = w30 at *
    clear c00 c01
    refine (K4.out _).mono ?_
    rintro e w31 ⟨rfl, x2⟩
    have xx := x2
    have B34 := Lib.hid (xx.at B34.out)
    have B35 := Lib.hid (xx.at B35.out)
    have B37 := Lib.hid (xx.at B37.out)
    have B45 := Lib.hid (xx.at B45.out)
    have B47 := Lib.hid (xx.at B47.out)
    have B49 := Lib.hid (xx.at B49.out)
    have X := Lib.hid (X.out.trans xx)
    clear xx x2
    obtain ⟨c00, c01⟩ := cells_of B47.out
    obtain ⟨c10, c11⟩ := cells_of B49.out
    cases cc
    all_goals
      go_wp2_with fail
      go_ret
      exact ⟨rfl, X.out⟩
end Go.Proofs.YtpmmajfdcicjiaaGreat.N
