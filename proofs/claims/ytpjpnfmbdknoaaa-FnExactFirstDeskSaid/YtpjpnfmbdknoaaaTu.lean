import Derived.Test.YtpjpnfmbdknoaaaBa
import Derived.Test.YtpjpnfmbdknoaaaPu
import Derived.Test.YtpjpnfmbdknoaaaSl
import Derived.Test.YtpjpnfmbdknoaaaProg
import Derived.Test.YtpjpnfmbdknoaaaTn
import Derived.Test.YtpjpnfmbdknoaaaTs
import Derived.Test.YtpjpnfmbdknoaaaPp
import Derived.Test.YtpjpnfmbdknoaaaWl
import Derived.Test.YtpjpnfmbdknoaaaTp
import Derived.Test.YtpjpnfmbdknoaaaTq
import Derived.Test.YtpjpnfmbdknoaaaTr
import Derived.Deep.LoopGhost
import Derived.StillTailTactics
/- Pairs told, read, put together. -/
namespace Go.Proofs.Ytpjpnfmbdknoaaa.N
open Go.RowKit
set_option linter.unusedVariables false
set_option linter.unusedSimpArgs false

set_option maxHeartbeats 3200000 in
set_option maxRecDepth 100000 in
theorem plain_calls (A B : Tr) (hA : A.carets < 100000000) (hB : B.carets < 100000000) (pa pb : Option Addr) (w : World) (ra : Rep w A pa) (rb : Rep w B pb) :
    Calls Try.prog 55 #[.agg #[.pointer pa, .pointer pb]] w fun e w' => e = .returned (.agg #[.string (tx A), .string (tx B)]) ∧ Ext w w' := by
  have X1 := Lib.hid ((Ext.refl w).alloc (.cells #[.pointer pa, .pointer pb] 64))
  have X2 := Lib.hid (X1.out.alloc (.cells #[.string ⟨#[]⟩, .string ⟨#[]⟩] 23))
  have C1 := fun W (hx : Ext w W) => text_calls A pa W (by omega) (ra.ext hx)
  have C2 := fun W (hx : Ext w W) => text_calls B pb W (by omega) (rb.ext hx)
  have c0 : ((w.alloc (.cells #[.pointer pa, .pointer pb] 64)).alloc (.cells #[.string ⟨#[]⟩, .string ⟨#[]⟩] 23)).cell? ⟨w.heap.size, 0, none⟩ = some (.pointer pa) := by go_simp
  have c1 : ((w.alloc (.cells #[.pointer pa, .pointer pb] 64)).alloc (.cells #[.string ⟨#[]⟩, .string ⟨#[]⟩] 23)).cell? ⟨w.heap.size, 1, none⟩ = some (.pointer pb) := by go_simp
  have t0 : Two ((w.alloc (.cells #[.pointer pa, .pointer pb] 64)).alloc (.cells #[.string ⟨#[]⟩, .string ⟨#[]⟩] 23)) (w.heap.size + 1) 23 := ⟨_, _, by
    have := heap_alloc_new (w.alloc (.cells #[.pointer pa, .pointer pb] 64)) (.cells #[.string ⟨#[]⟩, .string ⟨#[]⟩] 23)
    simpa using this⟩
  clear ra rb hA hB
  go_enter Try.func55, Try.ntmps55
  go_wp2_with fail
  generalize (w.alloc (.cells #[.pointer pa, .pointer pb] 64)).alloc (.cells #[.string ⟨#[]⟩, .string ⟨#[]⟩] 23) = W at *
  go_region_held3 (fun w' => w'.cell? ⟨w.heap.size, 0, none⟩ = some (.pointer pa) ∧ w'.cell? ⟨w.heap.size, 1, none⟩ = some (.pointer pb) ∧ Ext w w')
    (first | exact ⟨c0, c1, X2.out.drew⟩ | exact ⟨c0, c1, X2.out.drewN _⟩ | exact two_cells_set _ _ (w0 := w) (W := W.drewN _) c0 c1 (by omega) (X2.out.drewN _) (by omega) | fail)
    (first
      | (go_at_call_of 93 (Value.pointer pa); refine (C1 _ X2.out.drew).mono ?_; rintro e w1 ⟨rfl, n1, rfl⟩)
      | (go_at_call_of 93 (Value.pointer pb); refine (C2 _ (X2.out.drewN _)).mono ?_; rintro e w3 ⟨rfl, n3, rfl⟩; obtain ⟨u, v, k0, k1, f0, f1⟩ := (t0.ext ((Ext.refl W).drewN (1 + n1 + n3))).facts)
      | fail)
  have x3 := (Ext.refl W).drewN (1 + n1 + n3)
  have T3 := t0.ext x3
  have HH := set2_heap T3 (.string (tx A)) (.string (tx B))
  have XX := (X2.out.trans x3).set2 (g := w.heap.size + 1) (by omega) (.string (tx A)) (.string (tx B))
  change Exit.then _ _ _ _ (N.set2 _ (w.heap.size + 1) (.string (tx A)) (.string (tx B)))
  obtain ⟨hc0, hc1⟩ := cells_of HH
  generalize N.set2 _ (w.heap.size + 1) (.string (tx A)) (.string (tx B)) = W3 at *
  go_wp2_with fail
  exact bodyPost_ret (v := .agg #[.string (tx A), .string (tx B)]) (by simp [results, Try.results55, go_sem, hc0, hc1]) rfl ⟨rfl, XX⟩

/-- What a pair boxed and a pair of texts not yet laid give. -/
theorem box_facts (w : World) (pa pb : Option Addr) (s t : ByteArray) :
    Ext w ((w.alloc (.cells #[.pointer pa, .pointer pb] 64)).alloc (.cells #[.string s, .string t] 23)) ∧
    ((w.alloc (.cells #[.pointer pa, .pointer pb] 64)).alloc (.cells #[.string s, .string t] 23)).cell? ⟨w.heap.size, 0, none⟩ = some (.pointer pa) ∧
    ((w.alloc (.cells #[.pointer pa, .pointer pb] 64)).alloc (.cells #[.string s, .string t] 23)).cell? ⟨w.heap.size, 1, none⟩ = some (.pointer pb) ∧
    Two ((w.alloc (.cells #[.pointer pa, .pointer pb] 64)).alloc (.cells #[.string s, .string t] 23)) (w.heap.size + 1) 23 :=
  ⟨((Ext.refl w).alloc _).alloc _, by go_simp, by go_simp, ⟨_, _, by
    have := heap_alloc_new (w.alloc (.cells #[.pointer pa, .pointer pb] 64)) (.cells #[.string s, .string t] 23)
    simpa using this⟩⟩
set_option maxHeartbeats 3200000 in
set_option maxRecDepth 100000 in
theorem fits_yes (A B : Tr) (hA : A.carets ≤ 8) (hB : B.carets < 100000000) (pa pb : Option Addr) (w : World) (ra : Rep w A pa) (rb : Rep w B pb) :
    Calls Try.prog 85 #[.agg #[.pointer pa, .pointer pb]] w fun e w' => e = .returned (.tuple #[.agg #[.string (tx A), .string (tx B)], .bool true]) ∧ Ext w w' := by
  obtain ⟨X2, c0, c1, t0⟩ := box_facts w pa pb ⟨#[]⟩ ⟨#[]⟩
  have X2 := Lib.hid X2
  have C1 := fun W (hx : Ext w W) => carets_calls A pa W (by omega) (ra.ext hx)
  have C2 := fun W (hx : Ext w W) => plain_calls A B (by omega) hB pa pb W (ra.ext hx) (rb.ext hx)
  have b0 : (A.carets : Int) ≤ 8 := by omega
  clear ra rb hA hB
  go_enter Try.func85, Try.ntmps85
  go_wp2_with fail
  generalize (w.alloc (.cells #[.pointer pa, .pointer pb] 64)).alloc (.cells #[.string ⟨#[]⟩, .string ⟨#[]⟩] 23) = W at *
  refine (C1 _ X2.out).mono ?_
  rintro e w1 ⟨rfl, n1, rfl⟩
  go_wp2_with fail
  refine (C2 _ (X2.out.drewN _)).mono ?_
  rintro e w3 ⟨rfl, hx3⟩
  have x3 := ((Ext.refl W).drewN _).trans hx3
  obtain ⟨u, v, k0, k1, f0, f1⟩ := (t0.ext x3).facts
  clear hx3
  go_wp2_with fail
  have T3 := t0.ext x3
  have HH := set2_heap T3 (.string (tx A)) (.string (tx B))
  have XX := (X2.out.trans x3).set2 (g := w.heap.size + 1) (by omega) (.string (tx A)) (.string (tx B))
  change bodyPost _ _ _ _ _ (N.set2 _ (w.heap.size + 1) (.string (tx A)) (.string (tx B)))
  obtain ⟨hc0, hc1⟩ := cells_of HH
  generalize N.set2 _ (w.heap.size + 1) (.string (tx A)) (.string (tx B)) = W3 at *
  exact bodyPost_ret (v := .tuple #[.agg #[.string (tx A), .string (tx B)], .bool true]) (by simp [results, Try.results85, go_sem, hc0, hc1]) rfl ⟨rfl, XX⟩
set_option maxHeartbeats 3200000 in
set_option maxRecDepth 100000 in
theorem fits_no (A B : Tr) (hA : 8 < A.carets) (hB : A.carets < 100000000) (pa pb : Option Addr) (w : World) (ra : Rep w A pa) :
    Calls Try.prog 85 #[.agg #[.pointer pa, .pointer pb]] w fun e w' => e = .returned (.tuple #[.agg #[.string ⟨#[]⟩, .string ⟨#[]⟩], .bool false]) ∧ Ext w w' := by
  obtain ⟨X2, c0, c1, t0⟩ := box_facts w pa pb ⟨#[]⟩ ⟨#[]⟩
  have X2 := Lib.hid X2
  have C1 := fun W (hx : Ext w W) => carets_calls A pa W (by omega) (ra.ext hx)
  have b0 : (8 : Int) < (A.carets : Int) := by omega
  clear ra hA hB
  go_enter Try.func85, Try.ntmps85
  go_wp2_with fail
  generalize (w.alloc (.cells #[.pointer pa, .pointer pb] 64)).alloc (.cells #[.string ⟨#[]⟩, .string ⟨#[]⟩] 23) = W at *
  refine (C1 _ (by first | exact X2.out.drew | exact X2.out)).mono ?_
  rintro e w1 ⟨rfl, n1, rfl⟩
  have x3 := (Ext.refl W).drewN n1
  obtain ⟨u, v, k0, k1, f0, f1⟩ := (t0.ext x3).facts
  go_wp2_with fail
  have T3 := t0.ext x3
  have HH := set2_heap T3 (.string ⟨#[]⟩) (.string ⟨#[]⟩)
  have XX := (X2.out.trans x3).set2 (g := w.heap.size + 1) (by omega) (.string ⟨#[]⟩) (.string ⟨#[]⟩)
  change bodyPost _ _ _ _ _ (N.set2 _ (w.heap.size + 1) (.string ⟨#[]⟩) (.string ⟨#[]⟩))
  obtain ⟨hc0, hc1⟩ := cells_of HH
  generalize N.set2 _ (w.heap.size + 1) (.string ⟨#[]⟩) (.string ⟨#[]⟩) = W3 at *
  exact bodyPost_ret (v := .tuple #[.agg #[.string ⟨#[]⟩, .string ⟨#[]⟩], .bool false]) (by simp [results, Try.results85, go_sem, hc0, hc1]) rfl ⟨rfl, XX⟩

set_option maxHeartbeats 3200000 in
set_option maxRecDepth 100000 in
theorem halves_calls (A B C D : Tr) (hA : A.carets + C.carets < 1000000) (hB : B.carets + D.carets < 1000000) (pa pb pc pd : Option Addr) (w : World) (ra : Rep w A pa) (rb : Rep w B pb) (rc : Rep w C pc) (rd : Rep w D pd) :
    Calls Try.prog 84 #[.agg #[.pointer pa, .pointer pb], .agg #[.pointer pc, .pointer pd]] w (GivesP w (red (.node A C, .node B D)).1 (red (.node A C, .node B D)).2) := by
  have X3 := Lib.hid ((((Ext.refl w).alloc (.cells #[.pointer pa, .pointer pb] 64)).alloc (.cells #[.pointer pc, .pointer pd] 64)).alloc (.cells #[.pointer none, .pointer none] 64))
  have X5 := Lib.hid ((X3.out.alloc (.cells #[.pointer pa, .pointer pc] 100)).alloc (.cells #[.pointer pb, .pointer pd] 100))
  have R1 := Lib.hid (((Rep.made' (n := w.heap.size + 3) (ra.ext X3.out) (rc.ext X3.out) (by simp)).ext ((Ext.refl _).alloc (.cells #[.pointer pb, .pointer pd] 100))))
  have R2 := Lib.hid (Rep.made' (n := w.heap.size + 4) (rb.ext (X3.out.alloc (.cells #[.pointer pa, .pointer pc] 100))) (rd.ext (X3.out.alloc (.cells #[.pointer pa, .pointer pc] 100))) (by simp))
  have C1 := Lib.hid (fun W => reduced_calls (.node A C) (.node B D) (by simp only [Tr.carets]; omega) (by simp only [Tr.carets]; omega) (some ⟨w.heap.size + 3, 0, none⟩) (some ⟨w.heap.size + 4, 0, none⟩) W)
  have t0 : Hid (Two (((((w.alloc (.cells #[.pointer pa, .pointer pb] 64)).alloc (.cells #[.pointer pc, .pointer pd] 64)).alloc (.cells #[.pointer none, .pointer none] 64)).alloc (.cells #[.pointer pa, .pointer pc] 100)).alloc (.cells #[.pointer pb, .pointer pd] 100)) (w.heap.size + 2) 64) := (show Two _ _ _ from ⟨_, _, by
    have := heap_alloc_new ((w.alloc (.cells #[.pointer pa, .pointer pb] 64)).alloc (.cells #[.pointer pc, .pointer pd] 64)) (.cells #[.pointer none, .pointer none] 64)
    simpa using this⟩).ext (((Ext.refl _).alloc _).alloc _)
  clear ra rb rc rd hA hB
  go_enter Try.func84, Try.ntmps84
  go_wp2_with fail
  generalize ((((w.alloc (.cells #[.pointer pa, .pointer pb] 64)).alloc (.cells #[.pointer pc, .pointer pd] 64)).alloc (.cells #[.pointer none, .pointer none] 64)).alloc (.cells #[.pointer pa, .pointer pc] 100)).alloc (.cells #[.pointer pb, .pointer pd] 100) = W at *
  refine (C1.out _ R1.out R2.out).mono ?_
  rintro e w3 ⟨p1, p2, rfl, r1, r2, x3⟩
  obtain ⟨u, v, k0, k1, f0, f1⟩ := (t0.out.ext x3).facts
  go_wp2_with fail
  have T3 := t0.out.ext x3
  have HH := set2_heap T3 (.pointer p1) (.pointer p2)
  have Q1 := Rep.set2 T3 (by decide) (.pointer p1) (.pointer p2) r1
  have Q2 := Rep.set2 T3 (by decide) (.pointer p1) (.pointer p2) r2
  have XX := (X5.out.trans x3).set2 (g := w.heap.size + 2) (by omega) (.pointer p1) (.pointer p2)
  change bodyPost _ _ _ _ _ (N.set2 _ (w.heap.size + 2) (.pointer p1) (.pointer p2))
  obtain ⟨hc0, hc1⟩ := cells_of HH
  generalize N.set2 _ (w.heap.size + 2) (.pointer p1) (.pointer p2) = W3 at *
  exact bodyPost_ret (v := .agg #[.pointer p1, .pointer p2]) (by simp [results, Try.results84, go_sem, hc0, hc1]) rfl ⟨p1, p2, rfl, Q1, Q2, XX⟩

/-- Two texts of a pair. -/
def Good (s t : ByteArray) : Prop := ∃ A B, s = tx A ∧ t = tx B ∧ A.carets = B.carets ∧ B.carets ≤ 8
theorem parse_any (s : ByteArray) (w : World) : Calls Try.prog 59 #[.string s] w fun e w' => ∃ p b, e = .returned (.tuple #[.pointer p, .bool b]) ∧ Ext w w' ∧ Hid (b = true → ∃ T, s = tx T ∧ T.carets ≤ 8 ∧ Rep w' T p) ∧ Hid (b = false → ¬ ∃ T, s = tx T ∧ T.carets ≤ 8) := by
  by_cases h : ∃ T, s = tx T ∧ T.carets ≤ 8
  · obtain ⟨T, rfl, hT⟩ := h
    refine (parse_yes T w hT).mono ?_
    rintro e w' ⟨p, rfl, hr, hx⟩
    exact ⟨p, true, rfl, hx, (fun _ => ⟨T, rfl, hT, hr⟩), (fun h => by cases h)⟩
  · refine (parse_no s w h).mono ?_
    rintro e w' ⟨rfl, hx⟩
    exact ⟨none, false, rfl, hx, (fun h => by cases h), fun _ => h⟩
def PairPost (w : World) (s t : ByteArray) (e : Ending) (w' : World) : Prop := ∃ pa pb b, e = .returned (.tuple #[.agg #[.pointer pa, .pointer pb], .bool b]) ∧ Ext w w' ∧ Hid (b = true → ∃ A B, s = tx A ∧ t = tx B ∧ A.carets = B.carets ∧ B.carets ≤ 8 ∧ Rep w' A pa ∧ Rep w' B pb) ∧ Hid (b = false → ¬ Good s t)
set_option maxHeartbeats 3200000 in
set_option maxRecDepth 100000 in
theorem pairOf_calls (s t : ByteArray) (w : World) :
    Calls Try.prog 83 #[.agg #[.string s, .string t]] w (PairPost w s t) := by
  have X2 := Lib.hid (((Ext.refl w).alloc (.cells #[.string s, .string t] 23)).alloc (.cells #[.pointer none, .pointer none] 64))
  have c0 : ((w.alloc (.cells #[.string s, .string t] 23)).alloc (.cells #[.pointer none, .pointer none] 64)).cell? ⟨w.heap.size, 0, none⟩ = some (.string s) := by go_simp
  have c1 : ((w.alloc (.cells #[.string s, .string t] 23)).alloc (.cells #[.pointer none, .pointer none] 64)).cell? ⟨w.heap.size, 1, none⟩ = some (.string t) := by go_simp
  have t0 : Two ((w.alloc (.cells #[.string s, .string t] 23)).alloc (.cells #[.pointer none, .pointer none] 64)) (w.heap.size + 1) 64 := ⟨_, _, by
    have := heap_alloc_new (w.alloc (.cells #[.string s, .string t] 23)) (.cells #[.pointer none, .pointer none] 64)
    simpa using this⟩
  go_enter Try.func83, Try.ntmps83
  go_wp2_with fail
  generalize (w.alloc (.cells #[.string s, .string t] 23)).alloc (.cells #[.pointer none, .pointer none] 64) = W at *
  refine (parse_any s _).mono ?_
  rintro e w1 ⟨pa, b1, rfl, x1, y1, n1⟩
  have d1 := x1.cell c1
  have T1 := t0.ext x1
  have X3 := Lib.hid (X2.out.trans x1)
  clear c0 c1 t0
  go_wp2_with fail
  refine (parse_any t _).mono ?_
  rintro e w2 ⟨pb, b2, rfl, x2, y2, n2⟩
  have X4 := Lib.hid (X3.out.trans x2)
  have T2 := T1.ext x2
  obtain ⟨u, v, k0, k1, f0, f1⟩ := T2.facts
  have T2 := Lib.hid T2
  have x2 := Lib.hid x2
  clear d1 T1 x1
  cases b1 with
  | false =>
    have NG : Hid (¬ Good s t) := by
      rintro ⟨A, B, rfl, rfl, h1, h2⟩
      exact n1.out rfl ⟨A, rfl, by omega⟩
    clear y1 n1 y2 n2
    go_wp2_with fail
    have HH := set2_heap T2.out (.pointer pa) (.pointer pb)
    have XX := X4.out.set2 (g := w.heap.size + 1) (by omega) (.pointer pa) (.pointer pb)
    change bodyPost _ _ _ _ _ (N.set2 _ (w.heap.size + 1) (.pointer pa) (.pointer pb))
    obtain ⟨hc0, hc1⟩ := cells_of HH
    generalize N.set2 _ (w.heap.size + 1) (.pointer pa) (.pointer pb) = W3 at *
    exact bodyPost_ret (v := .tuple #[.agg #[.pointer pa, .pointer pb], .bool false]) (by simp [results, Try.results83, go_sem, hc0, hc1]) rfl ⟨_, _, _, rfl, XX, (fun h => by cases h), fun _ => NG.out⟩
  | true =>
    have Y1 := y1.out rfl
    cases b2 with
    | false =>
      have NG : Hid (¬ Good s t) := by
        rintro ⟨A, B, rfl, rfl, h1, h2⟩
        exact n2.out rfl ⟨B, rfl, h2⟩
      clear y1 n1 y2 n2 Y1
      go_wp2_with fail
      have HH := set2_heap T2.out (.pointer pa) (.pointer pb)
      have XX := X4.out.set2 (g := w.heap.size + 1) (by omega) (.pointer pa) (.pointer pb)
      change bodyPost _ _ _ _ _ (N.set2 _ (w.heap.size + 1) (.pointer pa) (.pointer pb))
      obtain ⟨hc0, hc1⟩ := cells_of HH
      generalize N.set2 _ (w.heap.size + 1) (.pointer pa) (.pointer pb) = W3 at *
      exact bodyPost_ret (v := .tuple #[.agg #[.pointer pa, .pointer pb], .bool false]) (by simp [results, Try.results83, go_sem, hc0, hc1]) rfl ⟨_, _, _, rfl, XX, (fun h => by cases h), fun _ => NG.out⟩
    | true =>
      obtain ⟨B, hB, lB, rB⟩ := y2.out rfl
      obtain ⟨A, hA, lA, rA⟩ := Y1
      subst hA hB
      have rA := rA.ext x2.out
      have C1 := fun W (hx : Ext w2 W) => carets_calls A pa W (by omega) (rA.ext hx)
      have C2 := fun W (hx : Ext w2 W) => carets_calls B pb W (by omega) (rB.ext hx)
      have RA := Lib.hid rA
      have RB := Lib.hid rB
      have LL := Lib.hid (And.intro lA lB)
      clear y1 n1 y2 n2 rA rB lA lB
      have YY : Hid ((((A.carets : Int) == (B.carets : Int)) = true) → A.carets = B.carets) := by
        intro h; have := eq_of_beq h; omega
      have NN : Hid ((((A.carets : Int) == (B.carets : Int)) = false) → ¬ Good (tx A) (tx B)) := by
        rintro h ⟨A', B', h1, h2, h3, _⟩
        obtain rfl := tx_inj h1
        obtain rfl := tx_inj h2
        rw [h3] at h
        simp at h
      go_wp2_with fail
      refine (C1 _ (Ext.refl _)).mono ?_
      rintro e w3 ⟨rfl, m1, rfl⟩
      go_wp2_with fail
      refine (C2 _ ((Ext.refl _).drewN _)).mono ?_
      rintro e w3 ⟨rfl, m2, rfl⟩
      go_wp2_with fail
      have x3 := (Ext.refl w2).drewN (m1 + m2)
      have T3 := T2.out.ext x3
      have HH := set2_heap T3 (.pointer pa) (.pointer pb)
      have XX := (X4.out.trans x3).set2 (g := w.heap.size + 1) (by omega) (.pointer pa) (.pointer pb)
      have Q1 := Rep.set2 T3 (by decide) (.pointer pa) (.pointer pb) (RA.out.ext x3)
      have Q2 := Rep.set2 T3 (by decide) (.pointer pa) (.pointer pb) (RB.out.ext x3)
      change bodyPost _ _ _ _ _ (N.set2 (w2.drewN (m1 + m2)) (w.heap.size + 1) (.pointer pa) (.pointer pb))
      obtain ⟨hc0, hc1⟩ := cells_of HH
      generalize N.set2 _ (w.heap.size + 1) (.pointer pa) (.pointer pb) = W3 at *
      generalize ((A.carets : Int) == (B.carets : Int)) = bb at *
      exact bodyPost_ret (v := .tuple #[.agg #[.pointer pa, .pointer pb], .bool bb]) (by simp [results, Try.results83, go_sem, hc0, hc1]) rfl ⟨_, _, _, rfl, XX, (fun h => ⟨A, B, rfl, rfl, YY.out h, LL.out.2, Q1, Q2⟩), fun h => NN.out h⟩

def emptyP : Value := .agg #[.string ⟨#[]⟩, .string ⟨#[]⟩]
/-- A pair of trees told, if it is not too great. -/
def ifP (p : Tr × Tr) : Value := if p.1.carets ≤ 8 then .tuple #[.agg #[.string (tx p.1), .string (tx p.2)], .bool true] else .tuple #[emptyP, .bool false]
theorem fits_calls (A B : Tr) (hA : A.carets < 100000000) (hB : B.carets < 100000000) (pa pb : Option Addr) (w : World) (ra : Rep w A pa) (rb : Rep w B pb) :
    Calls Try.prog 85 #[.agg #[.pointer pa, .pointer pb]] w fun e w' => e = .returned (ifP (A, B)) ∧ Ext w w' := by
  by_cases h : A.carets ≤ 8
  · rw [show ifP (A, B) = _ from if_pos h]; exact fits_yes A B h hB pa pb w ra rb
  · rw [show ifP (A, B) = _ from if_neg h]; exact fits_no A B (by omega) hA pa pb w ra
theorem ifP_two (p : Tr × Tr) : ∃ s t b, ifP p = .tuple #[.agg #[.string s, .string t], .bool b] := by
  unfold ifP; split
  · exact ⟨_, _, _, rfl⟩
  · exact ⟨_, _, _, rfl⟩
/-- What the two trees of a pair give. -/
theorem Good.leq {s t : ByteArray} (h : Good s t) : ∃ A B, s = tx A ∧ t = tx B ∧ A.carets = B.carets ∧ B.carets ≤ 8 := h
/-- What two texts boxed, and a result not yet laid, give. -/
theorem boxS_facts (w : World) (s t : ByteArray) (x y : Value) (ty : TypeId) :
    Ext w ((w.alloc (.cells #[.string s, .string t] 23)).alloc (.cells #[x, y] ty)) ∧
    Two ((w.alloc (.cells #[.string s, .string t] 23)).alloc (.cells #[x, y] ty)) (w.heap.size + 1) ty :=
  ⟨((Ext.refl w).alloc _).alloc _, ⟨_, _, by
    have := heap_alloc_new (w.alloc (.cells #[.string s, .string t] 23)) (.cells #[x, y] ty)
    simpa using this⟩⟩
theorem pairOf_yes (A B : Tr) (hc : A.carets = B.carets) (hB : B.carets ≤ 8) (w : World) : Calls Try.prog 83 #[.agg #[.string (tx A), .string (tx B)]] w fun e w' => ∃ pa pb, e = .returned (.tuple #[.agg #[.pointer pa, .pointer pb], .bool true]) ∧ Rep w' A pa ∧ Rep w' B pb ∧ Ext w w' := by
  refine (pairOf_calls _ _ w).mono ?_
  rintro e w1 ⟨pa, pb, b, rfl, x1, y1, n1⟩
  cases b with
  | false => exact absurd ⟨A, B, rfl, rfl, hc, hB⟩ (n1.out rfl)
  | true =>
    obtain ⟨A', B', hA, hB', h1, h2, rA, rB⟩ := y1.out rfl
    obtain rfl := tx_inj hA
    obtain rfl := tx_inj hB'
    exact ⟨pa, pb, rfl, rA, rB, x1⟩
theorem pairOf_no (s t : ByteArray) (h : ¬ Good s t) (w : World) : Calls Try.prog 83 #[.agg #[.string s, .string t]] w fun e w' => ∃ pa pb, e = .returned (.tuple #[.agg #[.pointer pa, .pointer pb], .bool false]) ∧ Ext w w' := by
  refine (pairOf_calls _ _ w).mono ?_
  rintro e w1 ⟨pa, pb, b, rfl, x1, y1, n1⟩
  cases b with
  | true =>
    obtain ⟨A', B', hA, hB', h1, h2, rA, rB⟩ := y1.out rfl
    exact absurd ⟨A', B', hA, hB', h1, h2⟩ h
  | false => exact ⟨pa, pb, rfl, x1⟩
set_option maxHeartbeats 3200000 in
set_option maxRecDepth 100000 in
theorem ShiftPair_yes (A B : Tr) (hc : A.carets = B.carets) (hB : B.carets ≤ 8) (w : World) :
    Calls Try.prog 50 #[.agg #[.string (tx A), .string (tx B)]] w fun e w' => e = .returned (ifP (red (.node .leaf A, .node .leaf B))) ∧ Ext w w' := by
  obtain ⟨X2, t0⟩ := boxS_facts w (tx A) (tx B) (.string ⟨#[]⟩) (.string ⟨#[]⟩) 23
  have X2 := Lib.hid X2
  have C1 := Lib.hid (pairOf_yes A B hc hB)
  have C2 := Lib.hid (fun pa pb W => halves_calls .leaf .leaf A B (by simp only [Tr.carets]; omega) (by simp only [Tr.carets]; omega) none none pa pb W rfl rfl)
  have LE := red_le (.node .leaf A, .node .leaf B)
  have C3 := Lib.hid (fun pa pb W => fits_calls (red (.node .leaf A, .node .leaf B)).1 (red (.node .leaf A, .node .leaf B)).2 (by simp only [Tr.carets] at LE; omega) (by simp only [Tr.carets] at LE; omega) pa pb W)
  obtain ⟨s, t, b, hb⟩ := ifP_two (red (.node .leaf A, .node .leaf B))
  rw [show ((red (.node .leaf A, .node .leaf B)).1, (red (.node .leaf A, .node .leaf B)).2) = red (.node .leaf A, .node .leaf B) from rfl, hb] at C3
  rw [hb]
  clear hc hB LE hb
  go_enter Try.func50, Try.ntmps50
  go_wp2_with fail
  generalize (w.alloc (.cells #[.string (tx A), .string (tx B)] 23)).alloc (.cells #[.string ⟨#[]⟩, .string ⟨#[]⟩] 23) = W at *
  refine (C1.out _).mono ?_
  rintro e w1 ⟨pa, pb, rfl, rA, rB, x1⟩
  have X1 := Lib.hid (x1.alloc (.cells #[.pointer pa, .pointer pb] 64))
  have RA := Lib.hid (rA.ext ((Ext.refl w1).alloc (.cells #[.pointer pa, .pointer pb] 64)))
  have RB := Lib.hid (rB.ext ((Ext.refl w1).alloc (.cells #[.pointer pa, .pointer pb] 64)))
  have T0 := Lib.hid (t0.ext X1.out)
  clear rA rB t0 x1
  go_wp2_with fail
  generalize w1.alloc (.cells #[.pointer pa, .pointer pb] 64) = W1 at *
  refine (C2.out pa pb _ RA.out RB.out).mono ?_
  rintro e w2 ⟨p1, p2, rfl, r1, r2, x2⟩
  have X2' := Lib.hid (X1.out.trans x2)
  have R1 := Lib.hid r1
  have R2 := Lib.hid r2
  clear r1 r2
  have T2 := Lib.hid (T0.out.ext x2)
  clear x2
  go_wp2_with fail
  refine (C3.out p1 p2 _ R1.out R2.out).mono ?_
  rintro e w3 ⟨rfl, x3⟩
  have X3 := Lib.hid (X2'.out.trans x3)
  have T3 := T2.out.ext x3
  obtain ⟨u, v, k0, k1, f0, f1⟩ := T3.facts
  have T3 := Lib.hid T3
  clear x3
  go_wp2_with fail
  have HH := set2_heap T3.out (.string s) (.string t)
  have XX := (X2.out.trans X3.out).set2 (g := w.heap.size + 1) (by omega) (.string s) (.string t)
  change bodyPost _ _ _ _ _ (N.set2 _ (w.heap.size + 1) (.string s) (.string t))
  obtain ⟨hc0, hc1⟩ := cells_of HH
  generalize N.set2 _ (w.heap.size + 1) (.string s) (.string t) = W3 at *
  exact bodyPost_ret (v := .tuple #[.agg #[.string s, .string t], .bool b]) (by simp [results, Try.results50, go_sem, hc0, hc1]) rfl ⟨rfl, XX⟩
set_option maxHeartbeats 3200000 in
set_option maxRecDepth 100000 in
theorem ShiftPair_no (s t : ByteArray) (h : ¬ Good s t) (w : World) :
    Calls Try.prog 50 #[.agg #[.string s, .string t]] w fun e w' => e = .returned (.tuple #[emptyP, .bool false]) ∧ Ext w w' := by
  obtain ⟨X2, t0⟩ := boxS_facts w s t (.string ⟨#[]⟩) (.string ⟨#[]⟩) 23
  have X2 := Lib.hid X2
  have C1 := Lib.hid (pairOf_no s t h)
  clear h
  go_enter Try.func50, Try.ntmps50
  go_wp2_with fail
  generalize (w.alloc (.cells #[.string s, .string t] 23)).alloc (.cells #[.string ⟨#[]⟩, .string ⟨#[]⟩] 23) = W at *
  refine (C1.out _).mono ?_
  rintro e w1 ⟨pa, pb, rfl, x1⟩
  have X1 := Lib.hid (x1.alloc (.cells #[.pointer pa, .pointer pb] 64))
  have T3 := t0.ext X1.out
  obtain ⟨u, v, k0, k1, f0, f1⟩ := T3.facts
  have T3 := Lib.hid T3
  clear t0 x1
  go_wp2_with fail
  have HH := set2_heap T3.out (.string ⟨#[]⟩) (.string ⟨#[]⟩)
  have XX := (X2.out.trans X1.out).set2 (g := w.heap.size + 1) (by omega) (.string ⟨#[]⟩) (.string ⟨#[]⟩)
  change bodyPost _ _ _ _ _ (N.set2 _ (w.heap.size + 1) (.string ⟨#[]⟩) (.string ⟨#[]⟩))
  obtain ⟨hc0, hc1⟩ := cells_of HH
  generalize N.set2 _ (w.heap.size + 1) (.string ⟨#[]⟩) (.string ⟨#[]⟩) = W3 at *
  exact bodyPost_ret (v := .tuple #[emptyP, .bool false]) (by simp [results, Try.results50, go_sem, hc0, hc1, emptyP]) rfl ⟨rfl, XX⟩
end Go.Proofs.Ytpjpnfmbdknoaaa.N
