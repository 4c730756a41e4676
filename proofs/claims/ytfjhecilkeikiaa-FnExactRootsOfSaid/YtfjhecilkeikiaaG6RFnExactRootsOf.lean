import Derived.Test.YtfjhecilkeikiaaG1RFnExactRootsOf
import Derived.Test.YtfjhecilkeikiaaG2RFnExactRootsOf
import Derived.Test.YtfjhecilkeikiaaProg
import Derived.Test.YtfjhecilkeikiaaG3RFnExactRootsOf
import Derived.Test.YtfjhecilkeikiaaG5RFnExactRootsOf
import Derived.Test.YtfjhecilkeikiaaG4RFnExactRootsOf
import Derived.Deep.LoopGhost
import Derived.StillTailTactics
import Derived.Deep.QuietTactic
import Derived.BigQuiet
/- Pairs told, read, put together. -/
namespace Go.Proofs.Ytfjhecilkeikiaa.N
open Go.RowKit
set_option linter.unusedVariables false
set_option linter.unusedSimpArgs false

set_option maxHeartbeats 3200000 in
set_option maxRecDepth 100000 in
theorem plain_calls (A B : Tr) (hA : A.carets < 100000000) (hB : B.carets < 100000000) (pa pb : Option Addr) (w : World) (ra : Rep w A pa) (rb : Rep w B pb) :
    Calls Try.prog 59 #[.agg #[.pointer pa, .pointer pb]] w fun e w' => e = .returned (.agg #[.string (tx A), .string (tx B)]) ∧ Ext w w' := by
  have X1 := Lib.hid ((Ext.refl w).alloc (.cells #[.pointer pa, .pointer pb] 48))
  have X2 := Lib.hid (X1.out.alloc (.cells #[.string ⟨#[]⟩, .string ⟨#[]⟩] 28))
  have C1 := fun W (hx : Ext w W) => text_calls A pa W (by omega) (ra.ext hx)
  have C2 := fun W (hx : Ext w W) => text_calls B pb W (by omega) (rb.ext hx)
  have c0 : ((w.alloc (.cells #[.pointer pa, .pointer pb] 48)).alloc (.cells #[.string ⟨#[]⟩, .string ⟨#[]⟩] 28)).cell? ⟨w.heap.size, 0, none⟩ = some (.pointer pa) := by go_simp
  have c1 : ((w.alloc (.cells #[.pointer pa, .pointer pb] 48)).alloc (.cells #[.string ⟨#[]⟩, .string ⟨#[]⟩] 28)).cell? ⟨w.heap.size, 1, none⟩ = some (.pointer pb) := by go_simp
  have t0 : Two ((w.alloc (.cells #[.pointer pa, .pointer pb] 48)).alloc (.cells #[.string ⟨#[]⟩, .string ⟨#[]⟩] 28)) (w.heap.size + 1) 28 := ⟨_, _, by
    have := heap_alloc_new (w.alloc (.cells #[.pointer pa, .pointer pb] 48)) (.cells #[.string ⟨#[]⟩, .string ⟨#[]⟩] 28)
    simpa using this⟩
  clear ra rb hA hB
  go_enter Try.func59, Try.ntmps59
  go_wp2_with fail
  generalize (w.alloc (.cells #[.pointer pa, .pointer pb] 48)).alloc (.cells #[.string ⟨#[]⟩, .string ⟨#[]⟩] 28) = W at *
  go_region_held3 (fun w' => w'.cell? ⟨w.heap.size, 0, none⟩ = some (.pointer pa) ∧ w'.cell? ⟨w.heap.size, 1, none⟩ = some (.pointer pb) ∧ Ext w w')
    (first | exact ⟨c0, c1, X2.out.drew⟩ | exact ⟨c0, c1, X2.out.drewN _⟩ | exact two_cells_set _ _ (w0 := w) (W := W.drewN _) c0 c1 (by omega) (X2.out.drewN _) (by omega) | fail)
    (first
      | (go_at_call_of 84 (Value.pointer pa); refine (C1 _ X2.out.drew).mono ?_; rintro e w1 ⟨rfl, n1, rfl⟩)
      | (go_at_call_of 84 (Value.pointer pb); refine (C2 _ (X2.out.drewN _)).mono ?_; rintro e w3 ⟨rfl, n3, rfl⟩; obtain ⟨u, v, k0, k1, f0, f1⟩ := (t0.ext ((Ext.refl W).drewN (1 + n1 + n3))).facts)
      | fail)
  have x3 := (Ext.refl W).drewN (1 + n1 + n3)
  have T3 := t0.ext x3
  have HH := set2_heap T3 (.string (tx A)) (.string (tx B))
  have XX := (X2.out.trans x3).set2 (g := w.heap.size + 1) (by omega) (.string (tx A)) (.string (tx B))
  change Exit.then _ _ _ _ (N.set2 _ (w.heap.size + 1) (.string (tx A)) (.string (tx B)))
  obtain ⟨hc0, hc1⟩ := cells_of HH
  generalize N.set2 _ (w.heap.size + 1) (.string (tx A)) (.string (tx B)) = W3 at *
  go_wp2_with fail
  exact bodyPost_ret (v := .agg #[.string (tx A), .string (tx B)]) (by simp [results, Try.results59, go_sem, hc0, hc1]) rfl ⟨rfl, XX⟩

/-- Two texts of a pair. -/
def Good (s t : ByteArray) : Prop := ∃ A B, s = tx A ∧ t = tx B ∧ A.carets = B.carets ∧ B.carets ≤ 8
theorem parse_any (s : ByteArray) (w : World) : Calls Try.prog 79 #[.string s] w fun e w' => ∃ p b, e = .returned (.tuple #[.pointer p, .bool b]) ∧ Ext w w' ∧ Hid (b = true → ∃ T, s = tx T ∧ T.carets ≤ 8 ∧ Rep w' T p) ∧ Hid (b = false → ¬ ∃ T, s = tx T ∧ T.carets ≤ 8) := by
  by_cases h : ∃ T, s = tx T ∧ T.carets ≤ 8
  · obtain ⟨T, rfl, hT⟩ := h
    refine (parse_yes T w hT).mono ?_
    rintro e w' ⟨p, rfl, hr, hx⟩
    exact ⟨p, true, rfl, hx, (fun _ => ⟨T, rfl, hT, hr⟩), (fun h => by cases h)⟩
  · refine (parse_no s w h).mono ?_
    rintro e w' ⟨rfl, hx⟩
    exact ⟨none, false, rfl, hx, (fun h => by cases h), fun _ => h⟩
def PairPost (w : World) (s t : ByteArray) (e : Ending) (w' : World) : Prop := ∃ pa pb b, e = .returned (.tuple #[.agg #[.pointer pa, .pointer pb], .bool b]) ∧ Ext w w' ∧ Hid (b = true → ∃ A B, s = tx A ∧ t = tx B ∧ A.carets = B.carets ∧ B.carets ≤ 8 ∧ Rep w' A pa ∧ Rep w' B pb) ∧ Hid (b = false → ¬ Good s t)
set_option maxHeartbeats 3200000 in
set_option maxRecDepth 100000 in
theorem pairOf_calls (s t : ByteArray) (w : World) :
    Calls Try.prog 48 #[.agg #[.string s, .string t]] w (PairPost w s t) := by
  have X2 := Lib.hid (((Ext.refl w).alloc (.cells #[.string s, .string t] 28)).alloc (.cells #[.pointer none, .pointer none] 48))
  have c0 : ((w.alloc (.cells #[.string s, .string t] 28)).alloc (.cells #[.pointer none, .pointer none] 48)).cell? ⟨w.heap.size, 0, none⟩ = some (.string s) := by go_simp
  have c1 : ((w.alloc (.cells #[.string s, .string t] 28)).alloc (.cells #[.pointer none, .pointer none] 48)).cell? ⟨w.heap.size, 1, none⟩ = some (.string t) := by go_simp
  have t0 : Two ((w.alloc (.cells #[.string s, .string t] 28)).alloc (.cells #[.pointer none, .pointer none] 48)) (w.heap.size + 1) 48 := ⟨_, _, by
    have := heap_alloc_new (w.alloc (.cells #[.string s, .string t] 28)) (.cells #[.pointer none, .pointer none] 48)
    simpa using this⟩
  go_enter Try.func48, Try.ntmps48
  go_wp2_with fail
  generalize (w.alloc (.cells #[.string s, .string t] 28)).alloc (.cells #[.pointer none, .pointer none] 48) = W at *
  refine (parse_any s _).mono ?_
  rintro e w1 ⟨pa, b1, rfl, x1, y1, n1⟩
  have d1 := x1.cell c1
  have T1 := t0.ext x1
  have X3 := Lib.hid (X2.out.trans x1)
  clear c0 c1 t0
  go_wp2_with fail
  refine (parse_any t _).mono ?_
  rintro e w2 ⟨pb, b2, rfl, x2, y2, n2⟩
  have X4 := Lib.hid (X3.out.trans x2)
  have T2 := T1.ext x2
  obtain ⟨u, v, k0, k1, f0, f1⟩ := T2.facts
  have T2 := Lib.hid T2
  have x2 := Lib.hid x2
  clear d1 T1 x1
  cases b1 with
  | false =>
    have NG : Hid (¬ Good s t) := by
      rintro ⟨A, B, rfl, rfl, h1, h2⟩
      exact n1.out rfl ⟨A, rfl, by omega⟩
    clear y1 n1 y2 n2
    go_wp2_with fail
    have HH := set2_heap T2.out (.pointer pa) (.pointer pb)
    have XX := X4.out.set2 (g := w.heap.size + 1) (by omega) (.pointer pa) (.pointer pb)
    change bodyPost _ _ _ _ _ (N.set2 _ (w.heap.size + 1) (.pointer pa) (.pointer pb))
    obtain ⟨hc0, hc1⟩ := cells_of HH
    generalize N.set2 _ (w.heap.size + 1) (.pointer pa) (.pointer pb) = W3 at *
    exact bodyPost_ret (v := .tuple #[.agg #[.pointer pa, .pointer pb], .bool false]) (by simp [results, Try.results48, go_sem, hc0, hc1]) rfl ⟨_, _, _, rfl, XX, (fun h => by cases h), fun _ => NG.out⟩
  | true =>
    have Y1 := y1.out rfl
    cases b2 with
    | false =>
      have NG : Hid (¬ Good s t) := by
        rintro ⟨A, B, rfl, rfl, h1, h2⟩
        exact n2.out rfl ⟨B, rfl, h2⟩
      clear y1 n1 y2 n2 Y1
      go_wp2_with fail
      have HH := set2_heap T2.out (.pointer pa) (.pointer pb)
      have XX := X4.out.set2 (g := w.heap.size + 1) (by omega) (.pointer pa) (.pointer pb)
      change bodyPost _ _ _ _ _ (N.set2 _ (w.heap.size + 1) (.pointer pa) (.pointer pb))
      obtain ⟨hc0, hc1⟩ := cells_of HH
      generalize N.set2 _ (w.heap.size + 1) (.pointer pa) (.pointer pb) = W3 at *
      exact bodyPost_ret (v := .tuple #[.agg #[.pointer pa, .pointer pb], .bool false]) (by simp [results, Try.results48, go_sem, hc0, hc1]) rfl ⟨_, _, _, rfl, XX, (fun h => by cases h), fun _ => NG.out⟩
    | true =>
      obtain ⟨B, hB, lB, rB⟩ := y2.out rfl
      obtain ⟨A, hA, lA, rA⟩ := Y1
      subst hA hB
      have rA := rA.ext x2.out
      have C1 := fun W (hx : Ext w2 W) => carets_calls A pa W (by omega) (rA.ext hx)
      have C2 := fun W (hx : Ext w2 W) => carets_calls B pb W (by omega) (rB.ext hx)
      have RA := Lib.hid rA
      have RB := Lib.hid rB
      have LL := Lib.hid (And.intro lA lB)
      clear y1 n1 y2 n2 rA rB lA lB
      have YY : Hid ((((A.carets : Int) == (B.carets : Int)) = true) → A.carets = B.carets) := by
        intro h; have := eq_of_beq h; omega
      have NN : Hid ((((A.carets : Int) == (B.carets : Int)) = false) → ¬ Good (tx A) (tx B)) := by
        rintro h ⟨A', B', h1, h2, h3, _⟩
        obtain rfl := tx_inj h1
        obtain rfl := tx_inj h2
        rw [h3] at h
        simp at h
      go_wp2_with fail
      refine (C1 _ (Ext.refl _)).mono ?_
      rintro e w3 ⟨rfl, m1, rfl⟩
      go_wp2_with fail
      refine (C2 _ ((Ext.refl _).drewN _)).mono ?_
      rintro e w3 ⟨rfl, m2, rfl⟩
      go_wp2_with fail
      have x3 := (Ext.refl w2).drewN (m1 + m2)
      have T3 := T2.out.ext x3
      have HH := set2_heap T3 (.pointer pa) (.pointer pb)
      have XX := (X4.out.trans x3).set2 (g := w.heap.size + 1) (by omega) (.pointer pa) (.pointer pb)
      have Q1 := Rep.set2 T3 (by decide) (.pointer pa) (.pointer pb) (RA.out.ext x3)
      have Q2 := Rep.set2 T3 (by decide) (.pointer pa) (.pointer pb) (RB.out.ext x3)
      change bodyPost _ _ _ _ _ (N.set2 (w2.drewN (m1 + m2)) (w.heap.size + 1) (.pointer pa) (.pointer pb))
      obtain ⟨hc0, hc1⟩ := cells_of HH
      generalize N.set2 _ (w.heap.size + 1) (.pointer pa) (.pointer pb) = W3 at *
      generalize ((A.carets : Int) == (B.carets : Int)) = bb at *
      exact bodyPost_ret (v := .tuple #[.agg #[.pointer pa, .pointer pb], .bool bb]) (by simp [results, Try.results48, go_sem, hc0, hc1]) rfl ⟨_, _, _, rfl, XX, (fun h => ⟨A, B, rfl, rfl, YY.out h, LL.out.2, Q1, Q2⟩), fun h => NN.out h⟩

def emptyP : Value := .agg #[.string ⟨#[]⟩, .string ⟨#[]⟩]
/-- A pair of trees told, if it is not too great. -/
def ifP (p : Tr × Tr) : Value := if p.1.carets ≤ 8 then .tuple #[.agg #[.string (tx p.1), .string (tx p.2)], .bool true] else .tuple #[emptyP, .bool false]
theorem ifP_two (p : Tr × Tr) : ∃ s t b, ifP p = .tuple #[.agg #[.string s, .string t], .bool b] := by
  unfold ifP; split
  · exact ⟨_, _, _, rfl⟩
  · exact ⟨_, _, _, rfl⟩
/-- What the two trees of a pair give. -/
theorem Good.leq {s t : ByteArray} (h : Good s t) : ∃ A B, s = tx A ∧ t = tx B ∧ A.carets = B.carets ∧ B.carets ≤ 8 := h
/-- What two texts boxed, and a result not yet laid, give. -/
theorem boxS_facts (w : World) (s t : ByteArray) (x y : Value) (ty : TypeId) :
    Ext w ((w.alloc (.cells #[.string s, .string t] 28)).alloc (.cells #[x, y] ty)) ∧
    Two ((w.alloc (.cells #[.string s, .string t] 28)).alloc (.cells #[x, y] ty)) (w.heap.size + 1) ty :=
  ⟨((Ext.refl w).alloc _).alloc _, ⟨_, _, by
    have := heap_alloc_new (w.alloc (.cells #[.string s, .string t] 28)) (.cells #[x, y] ty)
    simpa using this⟩⟩
theorem pairOf_yes (A B : Tr) (hc : A.carets = B.carets) (hB : B.carets ≤ 8) (w : World) : Calls Try.prog 48 #[.agg #[.string (tx A), .string (tx B)]] w fun e w' => ∃ pa pb, e = .returned (.tuple #[.agg #[.pointer pa, .pointer pb], .bool true]) ∧ Rep w' A pa ∧ Rep w' B pb ∧ Ext w w' := by
  refine (pairOf_calls _ _ w).mono ?_
  rintro e w1 ⟨pa, pb, b, rfl, x1, y1, n1⟩
  cases b with
  | false => exact absurd ⟨A, B, rfl, rfl, hc, hB⟩ (n1.out rfl)
  | true =>
    obtain ⟨A', B', hA, hB', h1, h2, rA, rB⟩ := y1.out rfl
    obtain rfl := tx_inj hA
    obtain rfl := tx_inj hB'
    exact ⟨pa, pb, rfl, rA, rB, x1⟩
theorem pairOf_no (s t : ByteArray) (h : ¬ Good s t) (w : World) : Calls Try.prog 48 #[.agg #[.string s, .string t]] w fun e w' => ∃ pa pb, e = .returned (.tuple #[.agg #[.pointer pa, .pointer pb], .bool false]) ∧ Ext w w' := by
  refine (pairOf_calls _ _ w).mono ?_
  rintro e w1 ⟨pa, pb, b, rfl, x1, y1, n1⟩
  cases b with
  | true =>
    obtain ⟨A', B', hA, hB', h1, h2, rA, rB⟩ := y1.out rfl
    exact absurd ⟨A', B', hA, hB', h1, h2⟩ h
  | false => exact ⟨pa, pb, rfl, x1⟩
end Go.Proofs.Ytfjhecilkeikiaa.N
/- Pairs at the laws' edge: their size, their copies, their likeness. -/
namespace Go.Proofs.Ytfjhecilkeikiaa.N
open Go.RowKit
set_option linter.unusedVariables false
set_option linter.unusedSimpArgs false

set_option maxHeartbeats 1600000 in
theorem szPair_calls (s t : ByteArray) (n : Int) (hn : 0 ≤ n ∧ n ≤ 1048576) (hs : s.size ≤ maxLen) (ht : t.size ≤ maxLen) (w : World) :
    Calls Try.prog 10 #[.agg #[.string s, .string t], .int .i64 n] w fun e w' => ∃ r : Int, e = .returned (.int .i64 r) ∧ Hid (-1 ≤ r ∧ r ≤ 1048576 ∧ (0 ≤ r → s.size ≤ 1048576 ∧ t.size ≤ 1048576)) ∧ Ext w w' := by
  unfold maxLen at hs ht
  have X1 := Lib.hid ((Ext.refl w).alloc (.cells #[.string s, .string t] 23))
  by_cases h1 : n - s.size < 0
  · go_enter Try.func10, Try.ntmps10
    go_wp2_with fail
    go_ret
    exact ⟨-1, rfl, ⟨by omega, by omega, fun h => by omega⟩, X1.out⟩
  · by_cases h2 : n - s.size - t.size < 0
    · go_enter Try.func10, Try.ntmps10
      go_wp2_with fail
      go_ret
      exact ⟨-1, rfl, ⟨by omega, by omega, fun h => by omega⟩, X1.out⟩
    · go_enter Try.func10, Try.ntmps10
      go_wp2_with fail
      go_ret
      exact ⟨n - s.size - t.size, rfl, ⟨by omega, by omega, fun h => ⟨by omega, by omega⟩⟩, X1.out⟩

set_option maxHeartbeats 1600000 in
theorem toPair_calls (s t : ByteArray) (w : World) :
    Calls Try.prog 12 #[.agg #[.string s, .string t]] w fun e w' => e = .returned (.agg #[.string s, .string t]) ∧ Ext w w' := by
  have X3 := Lib.hid ((((Ext.refl w).alloc (.cells #[.string s, .string t] 23)).alloc (.cells #[.string s, .string t] 28)).alloc (.cells #[.string s, .string t] 28))
  have Y3 := Lib.hid (((Ext.refl w).alloc (.cells #[.string s, .string t] 23)))
  have HH := ((Ext.refl _).alloc (.cells #[.string s, .string t] 28)).at (heap_alloc_new (w.alloc (.cells #[.string s, .string t] 23)) (.cells #[.string s, .string t] 28))
  rw [show (w.alloc (.cells #[.string s, .string t] 23)).heap.size = w.heap.size + 1 by simp] at HH
  obtain ⟨hc0, hc1⟩ := cells_of HH
  go_enter Try.func12, Try.ntmps12
  go_wp2_with fail
  exact bodyPost_ret (v := .agg #[.string s, .string t]) (by simp [results, Try.results12, go_sem, hc0, hc1]) rfl ⟨rfl, X3.out⟩

set_option maxHeartbeats 1600000 in
theorem eqPair_calls (s t : ByteArray) (w : World) :
    Calls Try.prog 43 #[.agg #[.string s, .string t], .agg #[.string s, .string t]] w fun e w' => e = .returned (.bool true) ∧ Ext w w' := by
  have X2 := Lib.hid (((Ext.refl w).alloc (.cells #[.string s, .string t] 28)).alloc (.cells #[.string s, .string t] 28))
  go_enter Try.func43, Try.ntmps43
  go_wp2_with fail
  go_ret
  exact ⟨rfl, X2.out⟩
end Go.Proofs.Ytfjhecilkeikiaa.N
