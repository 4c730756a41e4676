import Derived.Test.YtfkjjmmoipcddaaBa
import Derived.Test.YtfkjjmmoipcddaaPu
import Derived.Test.YtfkjjmmoipcddaaSl
import Derived.Test.YtfkjjmmoipcddaaProg
import Derived.Test.YtfkjjmmoipcddaaTn
import Derived.Test.YtfkjjmmoipcddaaTs
import Derived.Test.YtfkjjmmoipcddaaPp
import Derived.Test.YtfkjjmmoipcddaaPh
import Derived.Test.YtfkjjmmoipcddaaWl
import Derived.Test.YtfkjjmmoipcddaaTp
import Derived.Test.YtfkjjmmoipcddaaTr
import Derived.Test.YtfkjjmmoipcddaaTu
import Derived.Test.YtfkjjmmoipcddaaTv
import Derived.Test.YtfkjjmmoipcddaaTw
import Derived.Test.YtfkjjmmoipcddaaSx
import Derived.Test.YtfkjjmmoipcddaaSy
import Derived.Test.YtfkjjmmoipcddaaSz
import Derived.Test.YtfkjjmmoipcddaaSw
import Derived.Test.YtfkjjmmoipcddaaTk
import Derived.Test.YtfkjjmmoipcddaaSj
import Derived.Test.YtfkjjmmoipcddaaWp
import Derived.Test.YtfkjjmmoipcddaaWq
import Derived.Deep.LoopGhost
import Derived.Deep.RegionHeld3
import Derived.StillTailTactics
import Derived.Deep.CutRange
import Derived.Deep.QuietTactic
import Derived.BigQuiet
/- The conjugate of a pair by a pair: both functions and the law. -/
namespace Go.Proofs.Ytfkjjmmoipcddaa.N
open Go.RowKit
set_option linter.unusedVariables false
set_option linter.unusedSimpArgs false

set_option maxHeartbeats 3200000 in
set_option maxRecDepth 100000 in
theorem ConjugatePair_yes (A B C D : Tr) (hc : A.carets = B.carets) (hB : B.carets ≤ 8) (hd : C.carets = D.carets) (hD : D.carets ≤ 8) (w : World) :
    Calls Try.prog 37 #[.agg #[.string (tx A), .string (tx B)], .agg #[.string (tx C), .string (tx D)]] w fun e w' => e = .returned (ifP (conj (A, B) (C, D))) ∧ Ext w w' := by
  obtain ⟨X2, t0⟩ := boxSS_facts w (tx A) (tx B) (tx C) (tx D) (.string ⟨#[]⟩) (.string ⟨#[]⟩) 29
  have X2 := Lib.hid X2
  have C1 := Lib.hid (two_yes A B C D hc hB hd hD)
  have C2 := Lib.hid (fun pa pb pc pd W => conjugate_calls A B C D hc hd (by omega) (by omega) pa pb pc pd W)
  obtain ⟨l1, l2⟩ := conj_carets (p := (A, B)) (q := (C, D)) hc hd
  have C3 := Lib.hid (fun pa pb W => fits_calls (conj (A, B) (C, D)).1 (conj (A, B) (C, D)).2 (by simp only at l2; omega) (by simp only at l2; omega) pa pb W)
  obtain ⟨s, t, b, hb⟩ := ifP_two (conj (A, B) (C, D))
  rw [show ((conj (A, B) (C, D)).1, (conj (A, B) (C, D)).2) = conj (A, B) (C, D) from rfl, hb] at C3
  rw [hb]
  clear hc hB hd hD l1 l2 hb
  go_enter Try.func37, Try.ntmps37
  go_wp2_with fail
  generalize ((w.alloc (.cells #[.string (tx A), .string (tx B)] 29)).alloc (.cells #[.string (tx C), .string (tx D)] 29)).alloc (.cells #[.string ⟨#[]⟩, .string ⟨#[]⟩] 29) = W at *
  refine (C1.out _).mono ?_
  rintro e w1 ⟨pa, pb, pc, pd, rfl, rA, rB, rC, rD, x1⟩
  have xx := ((Ext.refl w1).alloc (.cells #[.pointer pa, .pointer pb] 78)).alloc (.cells #[.pointer pc, .pointer pd] 78)
  have X1 := Lib.hid (x1.trans xx)
  have RA := Lib.hid (rA.ext xx)
  have RB := Lib.hid (rB.ext xx)
  have RC := Lib.hid (rC.ext xx)
  have RD := Lib.hid (rD.ext xx)
  have T0 := Lib.hid (t0.ext X1.out)
  clear rA rB rC rD t0 x1 xx
  go_wp2_with fail
  generalize (w1.alloc (.cells #[.pointer pa, .pointer pb] 78)).alloc (.cells #[.pointer pc, .pointer pd] 78) = W1 at *
  refine (C2.out pa pb pc pd _ RA.out RB.out RC.out RD.out).mono ?_
  rintro e w2 ⟨p1, p2, rfl, r1, r2, x2⟩
  have X2' := Lib.hid (X1.out.trans x2)
  have R1 := Lib.hid r1
  have R2 := Lib.hid r2
  clear r1 r2
  have T2 := Lib.hid (T0.out.ext x2)
  clear x2
  go_wp2_with fail
  refine (C3.out p1 p2 _ R1.out R2.out).mono ?_
  rintro e w3 ⟨rfl, x3⟩
  have X3 := Lib.hid (X2'.out.trans x3)
  have T3 := T2.out.ext x3
  obtain ⟨u, v, k0, k1, f0, f1⟩ := T3.facts
  have T3 := Lib.hid T3
  clear x3
  go_wp2_with fail
  have HH := set2_heap T3.out (.string s) (.string t)
  have XX := (X2.out.trans X3.out).set2 (g := w.heap.size + 1 + 1) (by omega) (.string s) (.string t)
  change bodyPost _ _ _ _ _ (N.set2 _ (w.heap.size + 1 + 1) (.string s) (.string t))
  obtain ⟨hc0, hc1⟩ := cells_of HH
  generalize N.set2 _ (w.heap.size + 1 + 1) (.string s) (.string t) = W3 at *
  exact bodyPost_ret (v := .tuple #[.agg #[.string s, .string t], .bool b]) (by simp [results, Try.results37, go_sem, hc0, hc1]) rfl ⟨rfl, XX⟩
set_option maxHeartbeats 3200000 in
set_option maxRecDepth 100000 in
theorem ConjugatePair_no (s1 t1 s2 t2 : ByteArray) (h : ¬ (Good s1 t1 ∧ Good s2 t2)) (w : World) :
    Calls Try.prog 37 #[.agg #[.string s1, .string t1], .agg #[.string s2, .string t2]] w fun e w' => e = .returned (.tuple #[emptyP, .bool false]) ∧ Ext w w' := by
  obtain ⟨X2, t0⟩ := boxSS_facts w s1 t1 s2 t2 (.string ⟨#[]⟩) (.string ⟨#[]⟩) 29
  have X2 := Lib.hid X2
  have C1 := Lib.hid (two_no s1 t1 s2 t2 h)
  clear h
  go_enter Try.func37, Try.ntmps37
  go_wp2_with fail
  generalize ((w.alloc (.cells #[.string s1, .string t1] 29)).alloc (.cells #[.string s2, .string t2] 29)).alloc (.cells #[.string ⟨#[]⟩, .string ⟨#[]⟩] 29) = W at *
  refine (C1.out _).mono ?_
  rintro e w1 ⟨pa, pb, pc, pd, rfl, x1⟩
  have X1 := Lib.hid ((x1.alloc (.cells #[.pointer pa, .pointer pb] 78)).alloc (.cells #[.pointer pc, .pointer pd] 78))
  have T3 := t0.ext X1.out
  obtain ⟨u, v, k0, k1, f0, f1⟩ := T3.facts
  have T3 := Lib.hid T3
  clear t0 x1
  go_wp2_with fail
  have HH := set2_heap T3.out (.string ⟨#[]⟩) (.string ⟨#[]⟩)
  have XX := (X2.out.trans X1.out).set2 (g := w.heap.size + 1 + 1) (by omega) (.string ⟨#[]⟩) (.string ⟨#[]⟩)
  change bodyPost _ _ _ _ _ (N.set2 _ (w.heap.size + 1 + 1) (.string ⟨#[]⟩) (.string ⟨#[]⟩))
  obtain ⟨hc0, hc1⟩ := cells_of HH
  generalize N.set2 _ (w.heap.size + 1 + 1) (.string ⟨#[]⟩) (.string ⟨#[]⟩) = W3 at *
  exact bodyPost_ret (v := .tuple #[emptyP, .bool false]) (by simp [results, Try.results37, go_sem, hc0, hc1, emptyP]) rfl ⟨rfl, XX⟩
set_option maxHeartbeats 3200000 in
set_option maxRecDepth 100000 in
theorem specConjugatePair_yes (A B C D : Tr) (hc : A.carets = B.carets) (hB : B.carets ≤ 8) (hd : C.carets = D.carets) (hD : D.carets ≤ 8) (w : World) :
    Calls Try.prog 36 #[.agg #[.string (tx A), .string (tx B)], .agg #[.string (tx C), .string (tx D)]] w fun e w' => e = .returned (ifP (conj (A, B) (C, D))) ∧ Ext w w' := by
  obtain ⟨X0, c0, c1, c2, c3, t0⟩ := boxQQ_facts w (.string (tx A)) (.string (tx B)) (.string (tx C)) (.string (tx D)) (.string ⟨#[]⟩) (.string ⟨#[]⟩) 29 29
  have X2 := Lib.hid X0
  have C1 := Lib.hid (fun W => prGood_yes A B hc hB W)
  have C2 := Lib.hid (fun W => prGood_yes C D hd hD W)
  have C3 := Lib.hid (fun W => cjBy_calls A B C D hc hd (by omega) W)
  obtain ⟨l1, l2⟩ := conj_carets (p := (A, B)) (q := (C, D)) hc hd
  have C4 := Lib.hid (fun W => prIf_calls (conj (A, B) (C, D)).1 (conj (A, B) (C, D)).2 l1 W)
  obtain ⟨s, t, bb, hb⟩ := ifP_two (conj (A, B) (C, D))
  rw [show ((conj (A, B) (C, D)).1, (conj (A, B) (C, D)).2) = conj (A, B) (C, D) from rfl, hb] at C4
  rw [hb]
  clear hc hB hd hD hb l1 l2 X0
  generalize tx (conj (A, B) (C, D)).1 = r1 at *
  generalize tx (conj (A, B) (C, D)).2 = r2 at *
  generalize tx A = a at *
  generalize tx B = b at *
  generalize tx C = c at *
  generalize tx D = d at *
  go_enter Try.func36, Try.ntmps36
  go_wp2_with fail
  generalize ((w.alloc (.cells #[.string a, .string b] 29)).alloc (.cells #[.string c, .string d] 29)).alloc (.cells #[.string ⟨#[]⟩, .string ⟨#[]⟩] 29) = W at *
  refine (C1.out _).mono ?_
  rintro e w1 ⟨rfl, x1⟩
  have c0 := x1.cell c0
  have c1 := x1.cell c1
  have c2 := x1.cell c2
  have c3 := x1.cell c3
  have X1 := Lib.hid (X2.out.trans x1)
  have T1 := Lib.hid (t0.ext x1)
  clear t0 x1
  go_wp2_with fail
  refine (C2.out _).mono ?_
  rintro e w2 ⟨rfl, x2⟩
  have c0 := x2.cell c0
  have c1 := x2.cell c1
  have c2 := x2.cell c2
  have c3 := x2.cell c3
  have X2' := Lib.hid (X1.out.trans x2)
  have T2 := Lib.hid (T1.out.ext x2)
  clear x2
  go_wp2_with fail
  refine (C3.out _).mono ?_
  rintro e w3 ⟨rfl, x3⟩
  have X3 := Lib.hid (X2'.out.trans x3)
  have T3 := Lib.hid (T2.out.ext x3)
  clear x3 c0 c1 c2 c3
  go_wp2_with fail
  refine (C4.out _).mono ?_
  rintro e w4 ⟨rfl, x4⟩
  have X4 := Lib.hid (X3.out.trans x4)
  have T4 := T3.out.ext x4
  obtain ⟨u, v, k0, k1, f0, f1⟩ := T4.facts
  have T4 := Lib.hid T4
  clear x4
  go_wp2_with fail
  have HH := set2_heap T4.out (.string s) (.string t)
  have XX := X4.out.set2 (g := w.heap.size + 1 + 1) (by omega) (.string s) (.string t)
  change bodyPost _ _ _ _ _ (N.set2 _ (w.heap.size + 1 + 1) (.string s) (.string t))
  obtain ⟨hc0, hc1⟩ := cells_of HH
  generalize N.set2 _ (w.heap.size + 1 + 1) (.string s) (.string t) = W3 at *
  exact bodyPost_ret (v := .tuple #[.agg #[.string s, .string t], .bool bb]) (by simp [results, Try.results36, go_sem, hc0, hc1]) rfl ⟨rfl, XX⟩
set_option maxHeartbeats 3200000 in
set_option maxRecDepth 100000 in
theorem specConjugatePair_no (s1 t1 s2 t2 : ByteArray) (h : ¬ (Good s1 t1 ∧ Good s2 t2)) (w : World) :
    Calls Try.prog 36 #[.agg #[.string s1, .string t1], .agg #[.string s2, .string t2]] w fun e w' => e = .returned (.tuple #[emptyP, .bool false]) ∧ Ext w w' := by
  obtain ⟨X2, t0⟩ := boxSS_facts w s1 t1 s2 t2 (.string ⟨#[]⟩) (.string ⟨#[]⟩) 29
  have X2 := Lib.hid X2
  have B1 : (((w.alloc (.cells #[.string s1, .string t1] 29)).alloc (.cells #[.string s2, .string t2] 29)).alloc (.cells #[.string ⟨#[]⟩, .string ⟨#[]⟩] 29)).heap[w.heap.size + 1]? = some (.cells #[.string s2, .string t2] 29) := ((Ext.refl _).alloc _).at (by
    have := heap_alloc_new (w.alloc (.cells #[.string s1, .string t1] 29)) (.cells #[.string s2, .string t2] 29)
    simpa using this)
  by_cases h1 : Good s1 t1
  · have h2 : ¬ Good s2 t2 := fun h2 => h ⟨h1, h2⟩
    obtain ⟨A, B, rfl, rfl, hc, hB⟩ := h1
    have C1 := Lib.hid (fun W => prGood_yes A B hc hB W)
    have C2 := Lib.hid (fun W => prGood_no _ _ h2 W)
    clear h h2 hc hB
    generalize tx A = a at *
    generalize tx B = b at *
    go_enter Try.func36, Try.ntmps36
    go_wp2_with fail
    generalize ((w.alloc (.cells #[.string a, .string b] 29)).alloc (.cells #[.string s2, .string t2] 29)).alloc (.cells #[.string ⟨#[]⟩, .string ⟨#[]⟩] 29) = W at *
    refine (C1.out _).mono ?_
    rintro e w1 ⟨rfl, x1⟩
    obtain ⟨c2, c3⟩ := cells_of (x1.at B1)
    have X1 := Lib.hid (X2.out.trans x1)
    have T1 := Lib.hid (t0.ext x1)
    clear t0 x1 B1
    go_wp2_with fail
    refine (C2.out _).mono ?_
    rintro e w2 ⟨rfl, x2⟩
    have T3 := T1.out.ext x2
    obtain ⟨u, v, k0, k1, f0, f1⟩ := T3.facts
    have T3 := Lib.hid T3
    have X3 := Lib.hid (X1.out.trans x2)
    clear x2
    go_wp2_with fail
    have HH := set2_heap T3.out (.string ⟨#[]⟩) (.string ⟨#[]⟩)
    have XX := X3.out.set2 (g := w.heap.size + 1 + 1) (by omega) (.string ⟨#[]⟩) (.string ⟨#[]⟩)
    change bodyPost _ _ _ _ _ (N.set2 _ (w.heap.size + 1 + 1) (.string ⟨#[]⟩) (.string ⟨#[]⟩))
    obtain ⟨hc0, hc1⟩ := cells_of HH
    generalize N.set2 _ (w.heap.size + 1 + 1) (.string ⟨#[]⟩) (.string ⟨#[]⟩) = W3 at *
    exact bodyPost_ret (v := .tuple #[emptyP, .bool false]) (by simp [results, Try.results36, go_sem, hc0, hc1, emptyP]) rfl ⟨rfl, XX⟩
  · have C1 := Lib.hid (fun W => prGood_no _ _ h1 W)
    clear h h1 B1
    go_enter Try.func36, Try.ntmps36
    go_wp2_with fail
    generalize ((w.alloc (.cells #[.string s1, .string t1] 29)).alloc (.cells #[.string s2, .string t2] 29)).alloc (.cells #[.string ⟨#[]⟩, .string ⟨#[]⟩] 29) = W at *
    refine (C1.out _).mono ?_
    rintro e w1 ⟨rfl, x1⟩
    have T3 := t0.ext x1
    obtain ⟨u, v, k0, k1, f0, f1⟩ := T3.facts
    have T3 := Lib.hid T3
    have X3 := Lib.hid (X2.out.trans x1)
    clear x1 t0
    go_wp2_with fail
    have HH := set2_heap T3.out (.string ⟨#[]⟩) (.string ⟨#[]⟩)
    have XX := X3.out.set2 (g := w.heap.size + 1 + 1) (by omega) (.string ⟨#[]⟩) (.string ⟨#[]⟩)
    change bodyPost _ _ _ _ _ (N.set2 _ (w.heap.size + 1 + 1) (.string ⟨#[]⟩) (.string ⟨#[]⟩))
    obtain ⟨hc0, hc1⟩ := cells_of HH
    generalize N.set2 _ (w.heap.size + 1 + 1) (.string ⟨#[]⟩) (.string ⟨#[]⟩) = W3 at *
    exact bodyPost_ret (v := .tuple #[emptyP, .bool false]) (by simp [results, Try.results36, go_sem, hc0, hc1, emptyP]) rfl ⟨rfl, XX⟩

theorem both_ConjugatePair (s1 t1 s2 t2 : ByteArray) : ∃ x y b, (∀ w, Calls Try.prog 36 #[.agg #[.string s1, .string t1], .agg #[.string s2, .string t2]] w fun e w' => e = .returned (pb x y b) ∧ Ext w w') ∧ ∀ w, Calls Try.prog 37 #[.agg #[.string s1, .string t1], .agg #[.string s2, .string t2]] w fun e w' => e = .returned (pb x y b) ∧ Ext w w' := by
  by_cases h : Good s1 t1 ∧ Good s2 t2
  · obtain ⟨⟨A, B, rfl, rfl, h1, h2⟩, ⟨C, D, rfl, rfl, h3, h4⟩⟩ := h
    obtain ⟨x, y, b, hb⟩ := ifP_pb (conj (A, B) (C, D))
    refine ⟨x, y, b, ?_⟩
    rw [← hb]
    exact ⟨specConjugatePair_yes A B C D h1 h2 h3 h4, ConjugatePair_yes A B C D h1 h2 h3 h4⟩
  · exact ⟨⟨#[]⟩, ⟨#[]⟩, false, specConjugatePair_no _ _ _ _ h, ConjugatePair_no _ _ _ _ h⟩
set_option maxHeartbeats 3200000 in
set_option maxRecDepth 100000 in
theorem walk_FnExactConjugatePair (s1 t1 : ByteArray) (hs1 : s1.size ≤ maxLen) (ht1 : t1.size ≤ maxLen) (s2 t2 : ByteArray) (hs2 : s2.size ≤ maxLen) (ht2 : t2.size ≤ maxLen) (w : World) :
    Calls Try.prog 9 #[.agg #[.string s1, .string t1], .agg #[.string s2, .string t2]] w fun e w' => e = .returned (.bool true) ∧ Ext w w' := by
  obtain ⟨x, y, b, C1, C2⟩ := both_ConjugatePair s1 t1 s2 t2
  have C3 := Lib.hid (fun w => szPair_calls s1 t1 1048576 (by omega) hs1 ht1 w)
  have C3b := Lib.hid (fun n hn w => szPair_calls s2 t2 n hn hs2 ht2 w)
  have C4 := fun w => toPair_calls s1 t1 w
  have C5 := fun w => toPair_calls s2 t2 w
  have X0 := Lib.hid (((Ext.refl w).alloc (.cells #[.string s1, .string t1] 33)).alloc (.cells #[.string s2, .string t2] 33))
  have c0 : ((w.alloc (.cells #[.string s1, .string t1] 33)).alloc (.cells #[.string s2, .string t2] 33)).cell? ⟨w.heap.size, 0, none⟩ = some (.string s1) := by go_simp
  have c1 : ((w.alloc (.cells #[.string s1, .string t1] 33)).alloc (.cells #[.string s2, .string t2] 33)).cell? ⟨w.heap.size, 1, none⟩ = some (.string t1) := by go_simp
  have c2 : ((w.alloc (.cells #[.string s1, .string t1] 33)).alloc (.cells #[.string s2, .string t2] 33)).cell? ⟨w.heap.size + 1, 0, none⟩ = some (.string s2) := by go_simp
  have c3 : ((w.alloc (.cells #[.string s1, .string t1] 33)).alloc (.cells #[.string s2, .string t2] 33)).cell? ⟨w.heap.size + 1, 1, none⟩ = some (.string t2) := by go_simp
  clear hs1 ht1 hs2 ht2
  go_enter Try.func9, Try.ntmps9
  go_wp2_with fail
  generalize (w.alloc (.cells #[.string s1, .string t1] 33)).alloc (.cells #[.string s2, .string t2] 33) = W at *
  refine (C3.out _).mono ?_
  rintro e w1 ⟨r, rfl, hr, x1⟩
  have c0 := x1.cell c0
  have c1 := x1.cell c1
  have c2 := x1.cell c2
  have c3 := x1.cell c3
  have X1 := Lib.hid (X0.out.trans x1)
  have hr := Lib.hid hr.out
  clear x1
  by_cases hr0 : r < 0
  · go_wp2_with fail
    go_ret
    exact ⟨rfl, X1.out⟩
  · go_wp2_with fail
    refine (C3b.out r ⟨by omega, hr.out.2.1⟩ _).mono ?_
    rintro e w2 ⟨r2, rfl, hr2, x2⟩
    have c0 := x2.cell c0
    have c1 := x2.cell c1
    have c2 := x2.cell c2
    have c3 := x2.cell c3
    have X2 := Lib.hid (X1.out.trans x2)
    clear x2
    by_cases hr1 : r2 < 0
    · go_wp2_with fail
      go_ret
      exact ⟨rfl, X2.out⟩
    · go_wp2_with fail
      have KX : ∀ w', Ext w2 w' → w'.cell? ⟨w.heap.size, 0, none⟩ = some (.string s1) ∧ w'.cell? ⟨w.heap.size, 1, none⟩ = some (.string t1) ∧ w'.cell? ⟨w.heap.size + 1, 0, none⟩ = some (.string s2) ∧ w'.cell? ⟨w.heap.size + 1, 1, none⟩ = some (.string t2) := fun w' h => ⟨h.cell c0, h.cell c1, h.cell c2, h.cell c3⟩
      go_cut [6, 7] from 20 to 27 (fun a d wx => ∃ g, a = .pointer (some ⟨g, 0, none⟩) ∧ d = .bool b ∧ wx.cell? ⟨g, 0, none⟩ = some (.string x) ∧ wx.cell? ⟨g, 1, none⟩ = some (.string y) ∧ Ext w2 wx)
      case first =>
        go_region_held3 (fun w' => w'.cell? ⟨w.heap.size, 0, none⟩ = some (.string s1) ∧ w'.cell? ⟨w.heap.size, 1, none⟩ = some (.string t1) ∧ w'.cell? ⟨w.heap.size + 1, 0, none⟩ = some (.string s2) ∧ w'.cell? ⟨w.heap.size + 1, 1, none⟩ = some (.string t2))
          (first | exact KX _ (Ext.refl _).drew | exact KX _ ((Ext.refl _).alloc _).drew | exact KX _ ((Ext.refl _).drew.alloc _) | exact KX _ x3 | exact KX _ (x3.alloc _) | exact KX _ x4 | exact KX _ (x4.alloc _) | exact KX _ x5 | exact KX _ (x5.alloc _) | exact KX _ (x5.set2 hg (.string x) (.string y)) | fail)
          (first
            | (go_at_call 36; refine (C1 _).mono ?_; unfold pb; rintro e w5 ⟨rfl, hx5⟩; (first | (with_reducible have x5 := x4.trans hx5; (first | (with_reducible have TW5 := TW.ext hx5; obtain ⟨u, v, k0, k1, f0, f1⟩ := TW5.facts) | skip)) | (have TW5 := (Two.new w4 (.string ⟨#[]⟩) (.string ⟨#[]⟩) 29 rfl).ext hx5; have hg := Ext.heap x4; have x5 := (x4.alloc _).trans hx5; obtain ⟨u, v, k0, k1, f0, f1⟩ := TW5.facts)))
            | (go_at_call 25; with_reducible refine (C4 _).mono ?_; rintro e w3 ⟨rfl, hx3⟩; first | (with_reducible have x3 := (Ext.refl w2).drew.trans hx3) | (have TW := ((Two.new w2 (.string ⟨#[]⟩) (.string ⟨#[]⟩) 29 rfl).ext (Ext.refl _).drew).ext hx3; have hg := Nat.le_refl w2.heap.size; have x3 := ((Ext.refl w2).alloc _).drew.trans hx3))
            | (go_at_call 25; with_reducible refine (C5 _).mono ?_; rintro e w4 ⟨rfl, hx4⟩; first | (with_reducible have x4 := x3.trans hx4; (first | (with_reducible have TW := TW.ext hx4) | skip)) | (have TW := (Two.new w3 (.string ⟨#[]⟩) (.string ⟨#[]⟩) 29 rfl).ext hx4; have hg := Ext.heap x3; have x4 := (x3.alloc _).trans hx4))
            | fail)
        all_goals
          go_wp2_with fail
          go_meet
          first
            | exact ⟨_, rfl, rfl, (cells_of (heap_alloc_new w5 _)).1, (cells_of (heap_alloc_new w5 _)).2, x5.alloc _⟩
            | exact ⟨_, rfl, rfl, (cells_of (set2_heap TW5 (.string x) (.string y))).1, (cells_of (set2_heap TW5 (.string x) (.string y))).2, x5.set2 hg (.string x) (.string y)⟩
      case rest =>
        obtain ⟨g, rfl, rfl, d0, d1, XA⟩ := hcut
        have c0 := XA.cell c0
        have c1 := XA.cell c1
        have c2 := XA.cell c2
        have c3 := XA.cell c3
        have X3 := Lib.hid (X2.out.trans XA)
        clear XA KX
        generalize wc = wd at *
        go_wp2_with fail
        have KX : ∀ w', Ext wd w' → w'.cell? ⟨w.heap.size, 0, none⟩ = some (.string s1) ∧ w'.cell? ⟨w.heap.size, 1, none⟩ = some (.string t1) ∧ w'.cell? ⟨w.heap.size + 1, 0, none⟩ = some (.string s2) ∧ w'.cell? ⟨w.heap.size + 1, 1, none⟩ = some (.string t2) := fun w' h => ⟨h.cell c0, h.cell c1, h.cell c2, h.cell c3⟩
        go_cut [8, 9] from 28 to 35 (fun a d wx => ∃ g, a = .pointer (some ⟨g, 0, none⟩) ∧ d = .bool b ∧ wx.cell? ⟨g, 0, none⟩ = some (.string x) ∧ wx.cell? ⟨g, 1, none⟩ = some (.string y) ∧ Ext wd wx)
        case first =>
          go_region_held3 (fun w' => w'.cell? ⟨w.heap.size, 0, none⟩ = some (.string s1) ∧ w'.cell? ⟨w.heap.size, 1, none⟩ = some (.string t1) ∧ w'.cell? ⟨w.heap.size + 1, 0, none⟩ = some (.string s2) ∧ w'.cell? ⟨w.heap.size + 1, 1, none⟩ = some (.string t2))
            (first | exact KX _ (Ext.refl _).drew | exact KX _ ((Ext.refl _).alloc _).drew | exact KX _ ((Ext.refl _).drew.alloc _) | exact KX _ x3 | exact KX _ (x3.alloc _) | exact KX _ x4 | exact KX _ (x4.alloc _) | exact KX _ x5 | exact KX _ (x5.alloc _) | exact KX _ (x5.set2 hg (.string x) (.string y)) | fail)
            (first
              | (go_at_call 37; refine (C2 _).mono ?_; unfold pb; rintro e w5 ⟨rfl, hx5⟩; (first | (with_reducible have x5 := x4.trans hx5; (first | (with_reducible have TW5 := TW.ext hx5; obtain ⟨u, v, k0, k1, f0, f1⟩ := TW5.facts) | skip)) | (have TW5 := (Two.new w4 (.string ⟨#[]⟩) (.string ⟨#[]⟩) 29 rfl).ext hx5; have hg := Ext.heap x4; have x5 := (x4.alloc _).trans hx5; obtain ⟨u, v, k0, k1, f0, f1⟩ := TW5.facts)))
              | (go_at_call 25; with_reducible refine (C4 _).mono ?_; rintro e w3 ⟨rfl, hx3⟩; first | (with_reducible have x3 := (Ext.refl wd).drew.trans hx3) | (have TW := ((Two.new wd (.string ⟨#[]⟩) (.string ⟨#[]⟩) 29 rfl).ext (Ext.refl _).drew).ext hx3; have hg := Nat.le_refl wd.heap.size; have x3 := ((Ext.refl wd).alloc _).drew.trans hx3))
              | (go_at_call 25; with_reducible refine (C5 _).mono ?_; rintro e w4 ⟨rfl, hx4⟩; first | (with_reducible have x4 := x3.trans hx4; (first | (with_reducible have TW := TW.ext hx4) | skip)) | (have TW := (Two.new w3 (.string ⟨#[]⟩) (.string ⟨#[]⟩) 29 rfl).ext hx4; have hg := Ext.heap x3; have x4 := (x3.alloc _).trans hx4))
              | fail)
          all_goals
            go_wp2_with fail
            go_meet
            first
              | exact ⟨_, rfl, rfl, (cells_of (heap_alloc_new w5 _)).1, (cells_of (heap_alloc_new w5 _)).2, x5.alloc _⟩
              | exact ⟨_, rfl, rfl, (cells_of (set2_heap TW5 (.string x) (.string y))).1, (cells_of (set2_heap TW5 (.string x) (.string y))).2, x5.set2 hg (.string x) (.string y)⟩
        case rest =>
          obtain ⟨h, rfl, rfl, f0, f1, XB⟩ := hcut
          have d0 := XB.cell d0
          have d1 := XB.cell d1
          have X4 := Lib.hid (X3.out.trans XB)
          clear XB KX
          go_wp2_with fail
          refine (eqPair_calls x y _).mono ?_
          rintro e w6 ⟨rfl, x6⟩
          have X6 := Lib.hid (X4.out.trans x6)
          clear x6
          cases b
          all_goals
            go_wp2_with fail
            go_ret
            exact ⟨rfl, X6.out⟩
end Go.Proofs.Ytfkjjmmoipcddaa.N
