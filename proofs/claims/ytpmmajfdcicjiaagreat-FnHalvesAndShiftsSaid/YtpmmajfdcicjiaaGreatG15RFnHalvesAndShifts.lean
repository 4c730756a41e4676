import Derived.Test.YtpmmajfdcicjiaaGreatG1RFnHalvesAndShifts
import Derived.Test.YtpmmajfdcicjiaaGreatG2RFnHalvesAndShifts
import Derived.Test.YtpmmajfdcicjiaaGreatProg
import Derived.Test.YtpmmajfdcicjiaaGreatG5RFnHalvesAndShifts
import Derived.Test.YtpmmajfdcicjiaaGreatG3RFnHalvesAndShifts
import Derived.Test.YtpmmajfdcicjiaaGreatG4RFnHalvesAndShifts
import Derived.Test.YtpmmajfdcicjiaaGreatG6RFnHalvesAndShifts
import Derived.Test.YtpmmajfdcicjiaaGreatG7RFnHalvesAndShifts
import Derived.Test.YtpmmajfdcicjiaaGreatG14RFnHalvesAndShifts
import Derived.Test.YtpmmajfdcicjiaaGreatG8RFnHalvesAndShifts
import Derived.Deep.LoopGhost
import Derived.StillTailTactics
import Derived.Deep.QuietTactic
import Derived.BigQuiet
/- Pairs of halves, as the reference has them. -/
namespace Go.Proofs.YtpmmajfdcicjiaaGreat.N
open Go.RowKit
set_option linter.unusedVariables false
set_option linter.unusedSimpArgs false

theorem six_cells {w0 W : World} {a b g : Nat} {u0 u1 v0 v1 : Value} (x y : Value) (h0 : W.cell? ⟨a, 0, none⟩ = some u0) (h1 : W.cell? ⟨a, 1, none⟩ = some u1) (g0 : W.cell? ⟨b, 0, none⟩ = some v0) (g1 : W.cell? ⟨b, 1, none⟩ = some v1) (ha : a ≠ g) (hb : b ≠ g) (hx : Ext w0 W) (hg : w0.heap.size ≤ g) :
    (set2 W g x y).cell? ⟨a, 0, none⟩ = some u0 ∧ (set2 W g x y).cell? ⟨a, 1, none⟩ = some u1 ∧ (set2 W g x y).cell? ⟨b, 0, none⟩ = some v0 ∧ (set2 W g x y).cell? ⟨b, 1, none⟩ = some v1 ∧ Ext w0 (set2 W g x y) :=
  ⟨set2_far ha _ _ h0, set2_far ha _ _ h1, set2_far hb _ _ g0, set2_far hb _ _ g1, hx.set2 hg _ _⟩
set_option maxHeartbeats 3200000 in
set_option maxRecDepth 100000 in
theorem specHalvesPair_yes (A B C D : Tr) (hc : A.carets = B.carets) (hB : B.carets ≤ 8) (hd : C.carets = D.carets) (hD : D.carets ≤ 8) (w : World) :
    Calls Tryz.prog 8 #[.agg #[.string (tx A), .string (tx B)], .agg #[.string (tx C), .string (tx D)]] w fun e w' => e = .returned (ifP (red (.node A C, .node B D))) ∧ Ext w w' := by
  obtain ⟨X2, t0⟩ := boxSS_facts w (tx A) (tx B) (tx C) (tx D) (.string ⟨#[]⟩) (.string ⟨#[]⟩) 25
  have X2 := Lib.hid X2
  have B0 : (((w.alloc (.cells #[.string (tx A), .string (tx B)] 25)).alloc (.cells #[.string (tx C), .string (tx D)] 25)).alloc (.cells #[.string ⟨#[]⟩, .string ⟨#[]⟩] 25)).heap[w.heap.size]? = some (.cells #[.string (tx A), .string (tx B)] 25) := (((Ext.refl _).alloc _).alloc _).at (heap_alloc_new w _)
  have B1 : (((w.alloc (.cells #[.string (tx A), .string (tx B)] 25)).alloc (.cells #[.string (tx C), .string (tx D)] 25)).alloc (.cells #[.string ⟨#[]⟩, .string ⟨#[]⟩] 25)).heap[w.heap.size + 1]? = some (.cells #[.string (tx C), .string (tx D)] 25) := ((Ext.refl _).alloc _).at (by
    have := heap_alloc_new (w.alloc (.cells #[.string (tx A), .string (tx B)] 25)) (.cells #[.string (tx C), .string (tx D)] 25)
    simpa using this)
  have C1 := Lib.hid (fun W => prGood_yes A B hc hB W)
  have C2 := Lib.hid (fun W => prGood_yes C D hd hD W)
  have C3 := fun W => trOf_tree A C (by omega) (by omega) W
  have C4 := fun W => trOf_tree B D (by omega) (by omega) W
  have C5 := fun W => prReduce_calls (.node A C) (.node B D) (by simp only [Tr.carets]; omega) (by simp only [Tr.carets]; omega) W
  have C6 := fun W => prIf_calls (red (.node A C, .node B D)).1 (red (.node A C, .node B D)).2 (red_same (by simp only [Tr.carets]; omega)) W
  obtain ⟨s, t, bb, hb⟩ := ifP_two (red (.node A C, .node B D))
  rw [show ((red (.node A C, .node B D)).1, (red (.node A C, .node B D)).2) = red (.node A C, .node B D) from rfl, hb] at C6
  rw [hb]
  clear hc hB hd hD hb
  generalize tx (red (.node A C, .node B D)).1 = r1 at *
  generalize tx (red (.node A C, .node B D)).2 = r2 at *
  generalize tx (.node A C) = s1 at *
  generalize tx (.node B D) = s2 at *
  generalize tx A = a at *
  generalize tx B = b at *
  generalize tx C = c at *
  generalize tx D = d at *
  go_enter Tryz.func8, Tryz.ntmps8
  go_wp2_with fail
  generalize ((w.alloc (.cells #[.string a, .string b] 25)).alloc (.cells #[.string c, .string d] 25)).alloc (.cells #[.string ⟨#[]⟩, .string ⟨#[]⟩] 25) = W at *
  refine (C1.out _).mono ?_
  rintro e w1 ⟨rfl, x1⟩
  obtain ⟨c0, c1⟩ := cells_of (x1.at B0)
  obtain ⟨c2, c3⟩ := cells_of (x1.at B1)
  have X1 := Lib.hid (X2.out.trans x1)
  have T1 := Lib.hid (t0.ext x1)
  clear t0 x1 B0 B1
  go_wp2_with fail
  refine (C2.out _).mono ?_
  rintro e w2 ⟨rfl, x2⟩
  have c0 := x2.cell c0
  have c1 := x2.cell c1
  have c2 := x2.cell c2
  have c3 := x2.cell c3
  have X2' := Lib.hid (X1.out.trans x2)
  have T2 := T1.out.ext x2
  clear x2
  go_wp2_with fail
  go_region_held3 (fun w' => w'.cell? ⟨w.heap.size, 0, none⟩ = some (.string a) ∧ w'.cell? ⟨w.heap.size, 1, none⟩ = some (.string b) ∧ w'.cell? ⟨w.heap.size + 1, 0, none⟩ = some (.string c) ∧ w'.cell? ⟨w.heap.size + 1, 1, none⟩ = some (.string d) ∧ Ext w w')
    (first | exact ⟨c0, c1, c2, c3, X2'.out.drew⟩ | exact ⟨c0, c1, c2, c3, X2'.out.drewN _⟩ | exact six_cells _ _ (x4.cell c0) (x4.cell c1) (x4.cell c2) (x4.cell c3) (by omega) (by omega) (X2'.out.trans x4) (by omega) | exact ⟨x4.cell c0, x4.cell c1, x4.cell c2, x4.cell c3, X2'.out.trans x4⟩ | exact ⟨x3.cell c0, x3.cell c1, x3.cell c2, x3.cell c3, X2'.out.trans x3⟩ | fail)
    (first
      | (go_at_call 46; refine (C5 _).mono ?_; rintro e w3 ⟨rfl, hx3⟩; have x3 : Ext w2 w3 := (Ext.refl w2).drew.trans hx3)
      | (go_at_call 45; refine (C6 _).mono ?_; rintro e w4 ⟨rfl, hx4⟩; have x4 : Ext w2 w4 := x3.trans hx4; obtain ⟨u, v, k0, k1, f0, f1⟩ := (T2.ext x4).facts)
      | (go_at_call 47; with_reducible refine (C3 _).mono ?_; rintro e w1 ⟨rfl, rfl⟩)
      | (go_at_call 47; with_reducible refine (C4 _).mono ?_; rintro e w1 ⟨rfl, rfl⟩)
      | fail)
  have T4 := T2.ext x4
  have HH := set2_heap T4 (.string s) (.string t)
  have XX := (X2'.out.trans x4).set2 (g := w.heap.size + 1 + 1) (by omega) (.string s) (.string t)
  change Exit.then _ _ _ _ (N.set2 _ (w.heap.size + 1 + 1) (.string s) (.string t))
  obtain ⟨hc0, hc1⟩ := cells_of HH
  generalize N.set2 _ (w.heap.size + 1 + 1) (.string s) (.string t) = W3 at *
  go_wp2_with fail
  exact bodyPost_ret (v := .tuple #[.agg #[.string s, .string t], .bool bb]) (by simp [results, Tryz.results8, go_sem, hc0, hc1]) rfl ⟨rfl, XX⟩
set_option maxHeartbeats 3200000 in
set_option maxRecDepth 100000 in
theorem specHalvesPair_no (s1 t1 s2 t2 : ByteArray) (h : ¬ (Good s1 t1 ∧ Good s2 t2)) (w : World) :
    Calls Tryz.prog 8 #[.agg #[.string s1, .string t1], .agg #[.string s2, .string t2]] w fun e w' => e = .returned (.tuple #[emptyP, .bool false]) ∧ Ext w w' := by
  obtain ⟨X2, t0⟩ := boxSS_facts w s1 t1 s2 t2 (.string ⟨#[]⟩) (.string ⟨#[]⟩) 25
  have X2 := Lib.hid X2
  have B1 : (((w.alloc (.cells #[.string s1, .string t1] 25)).alloc (.cells #[.string s2, .string t2] 25)).alloc (.cells #[.string ⟨#[]⟩, .string ⟨#[]⟩] 25)).heap[w.heap.size + 1]? = some (.cells #[.string s2, .string t2] 25) := ((Ext.refl _).alloc _).at (by
    have := heap_alloc_new (w.alloc (.cells #[.string s1, .string t1] 25)) (.cells #[.string s2, .string t2] 25)
    simpa using this)
  by_cases h1 : Good s1 t1
  · have h2 : ¬ Good s2 t2 := fun h2 => h ⟨h1, h2⟩
    obtain ⟨A, B, rfl, rfl, hc, hB⟩ := h1
    have C1 := Lib.hid (fun W => prGood_yes A B hc hB W)
    have C2 := Lib.hid (fun W => prGood_no _ _ h2 W)
    clear h h2 hc hB
    generalize tx A = a at *
    generalize tx B = b at *
    go_enter Tryz.func8, Tryz.ntmps8
    go_wp2_with fail
    generalize ((w.alloc (.cells #[.string a, .string b] 25)).alloc (.cells #[.string s2, .string t2] 25)).alloc (.cells #[.string ⟨#[]⟩, .string ⟨#[]⟩] 25) = W at *
    refine (C1.out _).mono ?_
    rintro e w1 ⟨rfl, x1⟩
    obtain ⟨c2, c3⟩ := cells_of (x1.at B1)
    have X1 := Lib.hid (X2.out.trans x1)
    have T1 := Lib.hid (t0.ext x1)
    clear t0 x1 B1
    go_wp2_with fail
    refine (C2.out _).mono ?_
    rintro e w2 ⟨rfl, x2⟩
    have T3 := T1.out.ext x2
    obtain ⟨u, v, k0, k1, f0, f1⟩ := T3.facts
    have T3 := Lib.hid T3
    have X3 := Lib.hid (X1.out.trans x2)
    clear x2
    go_wp2_with fail
    have HH := set2_heap T3.out (.string ⟨#[]⟩) (.string ⟨#[]⟩)
    have XX := X3.out.set2 (g := w.heap.size + 1 + 1) (by omega) (.string ⟨#[]⟩) (.string ⟨#[]⟩)
    change bodyPost _ _ _ _ _ (N.set2 _ (w.heap.size + 1 + 1) (.string ⟨#[]⟩) (.string ⟨#[]⟩))
    obtain ⟨hc0, hc1⟩ := cells_of HH
    generalize N.set2 _ (w.heap.size + 1 + 1) (.string ⟨#[]⟩) (.string ⟨#[]⟩) = W3 at *
    exact bodyPost_ret (v := .tuple #[emptyP, .bool false]) (by simp [results, Tryz.results8, go_sem, hc0, hc1, emptyP]) rfl ⟨rfl, XX⟩
  · have C1 := Lib.hid (fun W => prGood_no _ _ h1 W)
    clear h h1 B1
    go_enter Tryz.func8, Tryz.ntmps8
    go_wp2_with fail
    generalize ((w.alloc (.cells #[.string s1, .string t1] 25)).alloc (.cells #[.string s2, .string t2] 25)).alloc (.cells #[.string ⟨#[]⟩, .string ⟨#[]⟩] 25) = W at *
    refine (C1.out _).mono ?_
    rintro e w1 ⟨rfl, x1⟩
    have T3 := t0.ext x1
    obtain ⟨u, v, k0, k1, f0, f1⟩ := T3.facts
    have T3 := Lib.hid T3
    have X3 := Lib.hid (X2.out.trans x1)
    clear x1 t0
    go_wp2_with fail
    have HH := set2_heap T3.out (.string ⟨#[]⟩) (.string ⟨#[]⟩)
    have XX := X3.out.set2 (g := w.heap.size + 1 + 1) (by omega) (.string ⟨#[]⟩) (.string ⟨#[]⟩)
    change bodyPost _ _ _ _ _ (N.set2 _ (w.heap.size + 1 + 1) (.string ⟨#[]⟩) (.string ⟨#[]⟩))
    obtain ⟨hc0, hc1⟩ := cells_of HH
    generalize N.set2 _ (w.heap.size + 1 + 1) (.string ⟨#[]⟩) (.string ⟨#[]⟩) = W3 at *
    exact bodyPost_ret (v := .tuple #[emptyP, .bool false]) (by simp [results, Tryz.results8, go_sem, hc0, hc1, emptyP]) rfl ⟨rfl, XX⟩
end Go.Proofs.YtpmmajfdcicjiaaGreat.N
/- Trees turned at an address. -/
namespace Go.Proofs.YtpmmajfdcicjiaaGreat.N
open Go.RowKit
set_option linter.unusedVariables false
set_option linter.unusedSimpArgs false

/-- What a turn of the program gives. -/
def ImplO (w : World) (o : Option Tr) (e : Ending) (w' : World) : Prop :=
  Ext w w' ∧ match o with
  | some T' => ∃ p, e = .returned (.tuple #[.pointer p, .bool true]) ∧ Rep w' T' p
  | none => ∃ p, e = .returned (.tuple #[.pointer p, .bool false])

end Go.Proofs.YtpmmajfdcicjiaaGreat.N
