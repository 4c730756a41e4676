import Derived.Test.YtpmmajfdcicjiaaGreatG1RFnHalvesAndShifts
import Derived.Test.YtpmmajfdcicjiaaGreatG2RFnHalvesAndShifts
import Derived.Test.YtpmmajfdcicjiaaGreatProg
import Derived.Test.YtpmmajfdcicjiaaGreatG5RFnHalvesAndShifts
import Derived.Test.YtpmmajfdcicjiaaGreatG3RFnHalvesAndShifts
import Derived.Test.YtpmmajfdcicjiaaGreatG12RFnHalvesAndShifts
import Derived.Test.YtpmmajfdcicjiaaGreatG7RFnHalvesAndShifts
import Derived.Test.YtpmmajfdcicjiaaGreatG6RFnHalvesAndShifts
import Derived.Test.YtpmmajfdcicjiaaGreatG8RFnHalvesAndShifts
import Derived.Test.YtpmmajfdcicjiaaGreatG18RFnHalvesAndShifts
import Derived.Deep.LoopGhost
import Derived.StillTailTactics
import Derived.Deep.RegionHeld3
import Derived.Deep.QuietTactic
/- A pair split into halves: both functions and the law. -/
namespace Go.Proofs.YtpmmajfdcicjiaaGreat.N
open Go.RowKit
set_option linter.unusedVariables false
set_option linter.unusedSimpArgs false

theorem prUnit_calls (w : World) : Calls Tryz.prog 58 #[] w fun e w' => e = .returned (.agg #[.string (tx .leaf), .string (tx .leaf)]) ∧ Ext w w' := by
  have X1 := Lib.hid ((Ext.refl w).alloc (.cells #[.string ⟨#[46]⟩, .string ⟨#[46]⟩] 25))
  obtain ⟨hc0, hc1⟩ := cells_of (heap_alloc_new w (.cells #[.string ⟨#[46]⟩, .string ⟨#[46]⟩] 25))
  go_enter Tryz.func58, Tryz.ntmps58
  go_wp2_with fail
  exact bodyPost_ret (v := .agg #[.string ⟨#[46]⟩, .string ⟨#[46]⟩]) (by simp [results, Tryz.results58, go_sem, hc0, hc1]) rfl ⟨rfl, X1.out⟩
theorem IdentityPair_calls (w : World) : Calls Tryz.prog 10 #[] w fun e w' => e = .returned (.agg #[.string (tx .leaf), .string (tx .leaf)]) ∧ Ext w w' := by
  have X1 := Lib.hid ((Ext.refl w).alloc (.cells #[.string ⟨#[46]⟩, .string ⟨#[46]⟩] 25))
  obtain ⟨hc0, hc1⟩ := cells_of (heap_alloc_new w (.cells #[.string ⟨#[46]⟩, .string ⟨#[46]⟩] 25))
  go_enter Tryz.func10, Tryz.ntmps10
  go_wp2_with fail
  exact bodyPost_ret (v := .agg #[.string ⟨#[46]⟩, .string ⟨#[46]⟩]) (by simp [results, Tryz.results10, go_sem, hc0, hc1]) rfl ⟨rfl, X1.out⟩

/-- Two pairs and a bool. -/
def ppb (a b c d : ByteArray) (f : Bool) : Value := .tuple #[.agg #[.string a, .string b], .agg #[.string c, .string d], .bool f]
theorem Two.far {w : World} {g k : Nat} {t : TypeId} (h : Two w k t) (hk : k ≠ g) (a b : Value) : Two (set2 w g a b) k t := let ⟨u, v, e⟩ := h.at_; ⟨u, v, (set2_other hk a b).trans e⟩
theorem two_results {w0 W : World} {g : Nat} {t : TypeId} (T1 : Two W g t) (T2 : Two W (g + 1) t) (a b c d : Value) (hx : Ext w0 W) (hg : w0.heap.size ≤ g) :
    (set2 (set2 W g a b) (g + 1) c d).cell? ⟨g, 0, none⟩ = some a ∧ (set2 (set2 W g a b) (g + 1) c d).cell? ⟨g, 1, none⟩ = some b ∧
    (set2 (set2 W g a b) (g + 1) c d).cell? ⟨g + 1, 0, none⟩ = some c ∧ (set2 (set2 W g a b) (g + 1) c d).cell? ⟨g + 1, 1, none⟩ = some d ∧ Ext w0 (set2 (set2 W g a b) (g + 1) c d) := by
  obtain ⟨a0, a1⟩ := cells_of (set2_heap T1 a b)
  obtain ⟨c0, c1⟩ := cells_of (set2_heap (T2.far (g := g) (by omega) a b) c d)
  exact ⟨set2_far (by simp) _ _ a0, set2_far (by simp) _ _ a1, c0, c1, (hx.set2 hg a b).set2 (by omega) c d⟩
theorem boxPP_facts (w : World) (s t : ByteArray) :
    Ext w (((w.alloc (.cells #[.string s, .string t] 25)).alloc (.cells #[.string ⟨#[]⟩, .string ⟨#[]⟩] 25)).alloc (.cells #[.string ⟨#[]⟩, .string ⟨#[]⟩] 25)) ∧
    Two (((w.alloc (.cells #[.string s, .string t] 25)).alloc (.cells #[.string ⟨#[]⟩, .string ⟨#[]⟩] 25)).alloc (.cells #[.string ⟨#[]⟩, .string ⟨#[]⟩] 25)) w.heap.size 25 ∧
    Two (((w.alloc (.cells #[.string s, .string t] 25)).alloc (.cells #[.string ⟨#[]⟩, .string ⟨#[]⟩] 25)).alloc (.cells #[.string ⟨#[]⟩, .string ⟨#[]⟩] 25)) (w.heap.size + 1) 25 ∧
    Two (((w.alloc (.cells #[.string s, .string t] 25)).alloc (.cells #[.string ⟨#[]⟩, .string ⟨#[]⟩] 25)).alloc (.cells #[.string ⟨#[]⟩, .string ⟨#[]⟩] 25)) (w.heap.size + 1 + 1) 25 :=
  ⟨(((Ext.refl w).alloc _).alloc _).alloc _, ((Two.new w _ _ _ rfl).ext ((Ext.refl _).alloc _)).ext ((Ext.refl _).alloc _), (Two.new _ _ _ _ (by simp)).ext ((Ext.refl _).alloc _), Two.new _ _ _ _ (by simp)⟩
/-- What splitting gives. -/
def splitT (p : Tr × Tr) : Option ((Tr × Tr) × (Tr × Tr)) :=
  match p with
  | (.leaf, _) => some ((.leaf, .leaf), (.leaf, .leaf))
  | (.node l r, .node a b) => if l.carets = a.carets then some ((l, a), (r, b)) else none
  | (.node _ _, .leaf) => none
def SpV (o : Option ((Tr × Tr) × (Tr × Tr))) : Value := match o with
  | some (x, y) => ppb (tx x.1) (tx x.2) (tx y.1) (tx y.2) true
  | none => ppb ⟨#[]⟩ ⟨#[]⟩ ⟨#[]⟩ ⟨#[]⟩ false

set_option maxHeartbeats 3200000 in
set_option maxRecDepth 100000 in
theorem specSplit_no (s t : ByteArray) (h : ¬ Good s t) (w : World) :
    Calls Tryz.prog 14 #[.agg #[.string s, .string t]] w fun e w' => e = .returned (SpV none) ∧ Ext w w' := by
  obtain ⟨X2, t0, t1, t2⟩ := boxPP_facts w s t
  have X2 := Lib.hid X2
  have C1 := Lib.hid (fun W => prGood_no s t h W)
  clear h
  show Calls _ _ _ _ (fun e w' => e = .returned (ppb ⟨#[]⟩ ⟨#[]⟩ ⟨#[]⟩ ⟨#[]⟩ false) ∧ Ext w w')
  unfold ppb
  go_enter Tryz.func14, Tryz.ntmps14
  go_wp2_with fail
  generalize ((w.alloc (.cells #[.string s, .string t] 25)).alloc (.cells #[.string ⟨#[]⟩, .string ⟨#[]⟩] 25)).alloc (.cells #[.string ⟨#[]⟩, .string ⟨#[]⟩] 25) = W at *
  refine (C1.out _).mono ?_
  rintro e w1 ⟨rfl, x1⟩
  have X1 := Lib.hid (X2.out.trans x1)
  have T1 := t1.ext x1
  have T2 := t2.ext x1
  obtain ⟨u, v, k0, k1, f0, f1⟩ := T1.facts
  obtain ⟨u', v', k0', k1', f0', f1'⟩ := T2.facts
  have TT := Lib.hid (And.intro T1 T2)
  clear x1 t0 t1 t2 T1 T2
  go_wp2_with fail
  obtain ⟨hc0, hc1, hc2, hc3, XX⟩ := two_results TT.out.1 TT.out.2 (.string ⟨#[]⟩) (.string ⟨#[]⟩) (.string ⟨#[]⟩) (.string ⟨#[]⟩) X1.out (by omega)
  change bodyPost _ _ _ _ _ (N.set2 (N.set2 w1 (w.heap.size + 1) (.string ⟨#[]⟩) (.string ⟨#[]⟩)) (w.heap.size + 1 + 1) (.string ⟨#[]⟩) (.string ⟨#[]⟩))
  generalize N.set2 (N.set2 w1 (w.heap.size + 1) (.string ⟨#[]⟩) (.string ⟨#[]⟩)) (w.heap.size + 1 + 1) (.string ⟨#[]⟩) (.string ⟨#[]⟩) = W3 at *
  exact bodyPost_ret (v := .tuple #[.agg #[.string ⟨#[]⟩, .string ⟨#[]⟩], .agg #[.string ⟨#[]⟩, .string ⟨#[]⟩], .bool false]) (by simp [results, Tryz.results14, go_sem, hc0, hc1, hc2, hc3]) rfl ⟨rfl, XX⟩
set_option maxHeartbeats 3200000 in
set_option maxRecDepth 100000 in
theorem specSplit_yes (A B : Tr) (hc : A.carets = B.carets) (hB : B.carets ≤ 8) (w : World) :
    Calls Tryz.prog 14 #[.agg #[.string (tx A), .string (tx B)]] w fun e w' => e = .returned (SpV (splitT (red (A, B)))) ∧ Ext w w' := by
  obtain ⟨X2, t0, t1, t2⟩ := boxPP_facts w (tx A) (tx B)
  have X2 := Lib.hid X2
  have C1 := Lib.hid (fun W => prGood_yes A B hc hB W)
  have C2 := Lib.hid (fun W => prReduce_calls A B (by omega) (by omega) W)
  have hs := red_same (p := (A, B)) hc
  have hle := (red_le (A, B)).2
  have hbo := red_both (A, B)
  have B0 : Hid ((((w.alloc (.cells #[.string (tx A), .string (tx B)] 25)).alloc (.cells #[.string ⟨#[]⟩, .string ⟨#[]⟩] 25)).alloc (.cells #[.string ⟨#[]⟩, .string ⟨#[]⟩] 25)).heap[w.heap.size]? = some (.cells #[.string (tx A), .string (tx B)] 25)) := (((Ext.refl _).alloc _).alloc _).at (heap_alloc_new w _)
  obtain ⟨C, D, hCD⟩ : ∃ C D, red (A, B) = (C, D) := ⟨_, _, rfl⟩
  rw [hCD] at C2 hs hle hbo ⊢
  simp only at C2 hs hle hbo
  clear hCD
  generalize tx A = a at *
  generalize tx B = b at *
  cases C with
  | leaf =>
    have C3 := Lib.hid (fun W => trLeaf_leaf W)
    have C4 := Lib.hid (fun W => prUnit_calls W)
    clear hs hle hbo hc hB
    show Calls _ _ _ _ (fun e w' => e = .returned (ppb (tx .leaf) (tx .leaf) (tx .leaf) (tx .leaf) true) ∧ Ext w w')
    unfold ppb
    generalize tx .leaf = z at *
    generalize tx D = y at *
    go_enter Tryz.func14, Tryz.ntmps14
    go_wp2_with fail
    generalize ((w.alloc (.cells #[.string a, .string b] 25)).alloc (.cells #[.string ⟨#[]⟩, .string ⟨#[]⟩] 25)).alloc (.cells #[.string ⟨#[]⟩, .string ⟨#[]⟩] 25) = W at *
    refine (C1.out _).mono ?_
    rintro e w1 ⟨rfl, x1⟩
    obtain ⟨c0, c1⟩ := cells_of (x1.at B0.out)
    have X1 := Lib.hid (X2.out.trans x1)
    have T1 := Lib.hid (t1.ext x1)
    have T2 := Lib.hid (t2.ext x1)
    have T0 := Lib.hid (t0.ext x1)
    clear x1 t0 t1 t2
    go_wp2_with fail
    refine (C2.out _).mono ?_
    rintro e w2 ⟨rfl, x2⟩
    have X2' := X1.out.trans x2
    have T0' := T0.out.ext x2
    obtain ⟨u, v, k0, k1, f0, f1⟩ := T0'.facts
    obtain ⟨d0, d1⟩ := cells_of (set2_heap T0' (.string z) (.string y))
    have T1 := Lib.hid ((T1.out.ext x2).far (g := w.heap.size) (by omega) (.string z) (.string y))
    have T2 := Lib.hid ((T2.out.ext x2).far (g := w.heap.size) (by omega) (.string z) (.string y))
    have X3 := Lib.hid (X2'.set2 (g := w.heap.size) (Nat.le_refl _) (.string z) (.string y))
    clear x2 c0 c1 X2' T0 T0'
    go_wp2_with fail
    change Calls _ _ _ (N.set2 w2 w.heap.size (.string z) (.string y)) _
    generalize N.set2 w2 w.heap.size (.string z) (.string y) = w3 at *
    refine (C3.out _).mono ?_
    rintro e w4 ⟨rfl, rfl⟩
    go_wp2_with fail
    refine (C4.out _).mono ?_
    rintro e w5 ⟨rfl, x5⟩
    have X5 := Lib.hid (X3.out.trans x5)
    have T1 := Lib.hid (T1.out.ext x5)
    have T2 := Lib.hid (T2.out.ext x5)
    clear x5
    go_wp2_with fail
    refine (C4.out _).mono ?_
    rintro e w6 ⟨rfl, x6⟩
    have X6 := Lib.hid (X5.out.trans x6)
    have T1 := T1.out.ext x6
    have T2 := T2.out.ext x6
    obtain ⟨u, v, k0, k1, f0, f1⟩ := T1.facts
    obtain ⟨u', v', k0', k1', f0', f1'⟩ := T2.facts
    have TT := Lib.hid (And.intro T1 T2)
    clear x6 T1 T2
    go_wp2_with fail
    obtain ⟨hc0, hc1, hc2, hc3, XX⟩ := two_results TT.out.1 TT.out.2 (.string z) (.string z) (.string z) (.string z) X6.out (by omega)
    change bodyPost _ _ _ _ _ (N.set2 (N.set2 w6 (w.heap.size + 1) (.string z) (.string z)) (w.heap.size + 1 + 1) (.string z) (.string z))
    generalize N.set2 (N.set2 w6 (w.heap.size + 1) (.string z) (.string z)) (w.heap.size + 1 + 1) (.string z) (.string z) = W3 at *
    exact bodyPost_ret (v := .tuple #[.agg #[.string z, .string z], .agg #[.string z, .string z], .bool true]) (by simp [results, Tryz.results14, go_sem, hc0, hc1, hc2, hc3]) rfl ⟨rfl, XX⟩
  | node l r =>
    cases D with
    | leaf => simp only [Tr.carets] at hs; omega
    | node l2 r2 =>
    have C3 := Lib.hid (fun W => trLeaf_node l r W)
    simp only [Tr.carets] at hs hle
    have dp1 := (Tr.node l r).depth_le
    have dp2 := (Tr.node l2 r2).depth_le
    simp only [Tr.carets] at dp1 dp2
    have C4 := Lib.hid (fun W => trSides_calls l r (by omega) (by simp only [Tr.carets]; omega) W)
    have C5 := Lib.hid (fun W => trSides_calls l2 r2 (by omega) (by simp only [Tr.carets]; omega) W)
    have C6 := Lib.hid (fun W => trCarets_tree l (by omega) W)
    have C7 := Lib.hid (fun W => trCarets_tree l2 (by omega) W)
    have C8 := Lib.hid (fun W => prReduce_calls l l2 (by omega) (by omega) W)
    have C9 := Lib.hid (fun W => prReduce_calls r r2 (by omega) (by omega) W)
    by_cases hll : l.carets = l2.carets
    · have e1 : splitT (.node l r, .node l2 r2) = some ((l, l2), (r, r2)) := if_pos hll
      have hh := red_halves hbo hll (by omega)
      rw [red_nil hh.1] at C8
      rw [red_nil hh.2] at C9
      have q1 : ((l.carets : Int) != (l2.carets : Int)) = false := by rw [hll]; simp
      rw [e1]
      clear hs hle hbo hc hB dp1 dp2 hll e1 hh
      show Calls _ _ _ _ (fun e w' => e = .returned (ppb (tx l) (tx l2) (tx r) (tx r2) true) ∧ Ext w w')
      unfold ppb
      generalize tx (.node l r) = z at *
      generalize tx (.node l2 r2) = y at *
      generalize tx l = sl at *
      generalize tx r = sr at *
      generalize tx l2 = sl2 at *
      generalize tx r2 = sr2 at *
      go_enter Tryz.func14, Tryz.ntmps14
      go_wp2_with fail
      generalize ((w.alloc (.cells #[.string a, .string b] 25)).alloc (.cells #[.string ⟨#[]⟩, .string ⟨#[]⟩] 25)).alloc (.cells #[.string ⟨#[]⟩, .string ⟨#[]⟩] 25) = W at *
      refine (C1.out _).mono ?_
      rintro e w1 ⟨rfl, x1⟩
      obtain ⟨c0, c1⟩ := cells_of (x1.at B0.out)
      have X1 := Lib.hid (X2.out.trans x1)
      have T1 := Lib.hid (t1.ext x1)
      have T2 := Lib.hid (t2.ext x1)
      have T0 := Lib.hid (t0.ext x1)
      clear x1 t0 t1 t2
      go_wp2_with fail
      refine (C2.out _).mono ?_
      rintro e w2 ⟨rfl, x2⟩
      have X2' := X1.out.trans x2
      have T0' := T0.out.ext x2
      obtain ⟨u, v, k0, k1, f0, f1⟩ := T0'.facts
      obtain ⟨d0, d1⟩ := cells_of (set2_heap T0' (.string z) (.string y))
      have T1 := Lib.hid ((T1.out.ext x2).far (g := w.heap.size) (by omega) (.string z) (.string y))
      have T2 := Lib.hid ((T2.out.ext x2).far (g := w.heap.size) (by omega) (.string z) (.string y))
      have X3 := Lib.hid (X2'.set2 (g := w.heap.size) (Nat.le_refl _) (.string z) (.string y))
      clear x2 c0 c1 X2' T0 T0'
      go_wp2_with fail
      change Calls _ _ _ (N.set2 w2 w.heap.size (.string z) (.string y)) _
      generalize N.set2 w2 w.heap.size (.string z) (.string y) = w3 at *
      refine (C3.out _).mono ?_
      rintro e w4 ⟨rfl, rfl⟩
      go_wp2_with fail
      refine (C4.out _).mono ?_
      rintro e w4 ⟨rfl, n4, rfl⟩
      have xd : Ext w3 (w3.drewN n4) := (Ext.refl _).drewN _
      have d1 := xd.cell d1
      have X3 := Lib.hid (X3.out.trans xd)
      have T1 := Lib.hid (T1.out.ext xd)
      have T2 := Lib.hid (T2.out.ext xd)
      clear xd
      generalize w3.drewN n4 = w4 at *
      go_wp2_with fail
      refine (C5.out _).mono ?_
      rintro e w5 ⟨rfl, n5, rfl⟩
      have xd : Ext w4 (w4.drewN n5) := (Ext.refl _).drewN _
      have X3 := Lib.hid (X3.out.trans xd)
      have T1 := Lib.hid (T1.out.ext xd)
      have T2 := Lib.hid (T2.out.ext xd)
      clear xd
      generalize w4.drewN n5 = w5 at *
      go_wp2_with fail
      refine (C6.out _).mono ?_
      rintro e w6 ⟨rfl, rfl⟩
      go_wp2_with fail
      refine (C7.out _).mono ?_
      rintro e w6 ⟨rfl, rfl⟩
      go_wp2_with fail
      refine (C8.out _).mono ?_
      rintro e w6 ⟨rfl, x6⟩
      have X6 := Lib.hid (X3.out.trans x6)
      have T1 := Lib.hid (T1.out.ext x6)
      have T2 := Lib.hid (T2.out.ext x6)
      clear x6
      go_wp2_with fail
      refine (C9.out _).mono ?_
      rintro e w7 ⟨rfl, x7⟩
      have X7 := Lib.hid (X6.out.trans x7)
      have T1 := T1.out.ext x7
      have T2 := T2.out.ext x7
      obtain ⟨u, v, k0, k1, f0, f1⟩ := T1.facts
      obtain ⟨u', v', k0', k1', f0', f1'⟩ := T2.facts
      have TT := Lib.hid (And.intro T1 T2)
      clear x7 T1 T2
      go_wp2_with fail
      obtain ⟨hc0, hc1, hc2, hc3, XX⟩ := two_results TT.out.1 TT.out.2 (.string sl) (.string sl2) (.string sr) (.string sr2) X7.out (by omega)
      change bodyPost _ _ _ _ _ (N.set2 (N.set2 w7 (w.heap.size + 1) (.string sl) (.string sl2)) (w.heap.size + 1 + 1) (.string sr) (.string sr2))
      generalize N.set2 (N.set2 w7 (w.heap.size + 1) (.string sl) (.string sl2)) (w.heap.size + 1 + 1) (.string sr) (.string sr2) = W3 at *
      exact bodyPost_ret (v := .tuple #[.agg #[.string sl, .string sl2], .agg #[.string sr, .string sr2], .bool true]) (by simp [results, Tryz.results14, go_sem, hc0, hc1, hc2, hc3]) rfl ⟨rfl, XX⟩
    · have e1 : splitT (.node l r, .node l2 r2) = none := if_neg hll
      have q1 : ((l.carets : Int) != (l2.carets : Int)) = true := by rw [bne_iff_ne]; omega
      rw [e1]
      clear hs hle hbo hc hB dp1 dp2 hll e1 C8 C9
      show Calls _ _ _ _ (fun e w' => e = .returned (ppb ⟨#[]⟩ ⟨#[]⟩ ⟨#[]⟩ ⟨#[]⟩ false) ∧ Ext w w')
      unfold ppb
      generalize tx (.node l r) = z at *
      generalize tx (.node l2 r2) = y at *
      generalize tx l = sl at *
      generalize tx r = sr at *
      generalize tx l2 = sl2 at *
      generalize tx r2 = sr2 at *
      go_enter Tryz.func14, Tryz.ntmps14
      go_wp2_with fail
      generalize ((w.alloc (.cells #[.string a, .string b] 25)).alloc (.cells #[.string ⟨#[]⟩, .string ⟨#[]⟩] 25)).alloc (.cells #[.string ⟨#[]⟩, .string ⟨#[]⟩] 25) = W at *
      refine (C1.out _).mono ?_
      rintro e w1 ⟨rfl, x1⟩
      obtain ⟨c0, c1⟩ := cells_of (x1.at B0.out)
      have X1 := Lib.hid (X2.out.trans x1)
      have T1 := Lib.hid (t1.ext x1)
      have T2 := Lib.hid (t2.ext x1)
      have T0 := Lib.hid (t0.ext x1)
      clear x1 t0 t1 t2
      go_wp2_with fail
      refine (C2.out _).mono ?_
      rintro e w2 ⟨rfl, x2⟩
      have X2' := X1.out.trans x2
      have T0' := T0.out.ext x2
      obtain ⟨u, v, k0, k1, f0, f1⟩ := T0'.facts
      obtain ⟨d0, d1⟩ := cells_of (set2_heap T0' (.string z) (.string y))
      have T1 := Lib.hid ((T1.out.ext x2).far (g := w.heap.size) (by omega) (.string z) (.string y))
      have T2 := Lib.hid ((T2.out.ext x2).far (g := w.heap.size) (by omega) (.string z) (.string y))
      have X3 := Lib.hid (X2'.set2 (g := w.heap.size) (Nat.le_refl _) (.string z) (.string y))
      clear x2 c0 c1 X2' T0 T0'
      go_wp2_with fail
      change Calls _ _ _ (N.set2 w2 w.heap.size (.string z) (.string y)) _
      generalize N.set2 w2 w.heap.size (.string z) (.string y) = w3 at *
      refine (C3.out _).mono ?_
      rintro e w4 ⟨rfl, rfl⟩
      go_wp2_with fail
      refine (C4.out _).mono ?_
      rintro e w4 ⟨rfl, n4, rfl⟩
      have xd : Ext w3 (w3.drewN n4) := (Ext.refl _).drewN _
      have d1 := xd.cell d1
      have X3 := Lib.hid (X3.out.trans xd)
      have T1 := Lib.hid (T1.out.ext xd)
      have T2 := Lib.hid (T2.out.ext xd)
      clear xd
      generalize w3.drewN n4 = w4 at *
      go_wp2_with fail
      refine (C5.out _).mono ?_
      rintro e w5 ⟨rfl, n5, rfl⟩
      have xd : Ext w4 (w4.drewN n5) := (Ext.refl _).drewN _
      have X3 := Lib.hid (X3.out.trans xd)
      have T1 := Lib.hid (T1.out.ext xd)
      have T2 := Lib.hid (T2.out.ext xd)
      clear xd
      generalize w4.drewN n5 = w5 at *
      go_wp2_with fail
      refine (C6.out _).mono ?_
      rintro e w6 ⟨rfl, rfl⟩
      go_wp2_with fail
      refine (C7.out _).mono ?_
      rintro e w7 ⟨rfl, rfl⟩
      have T1 := T1.out
      have T2 := T2.out
      obtain ⟨u, v, k0, k1, f0, f1⟩ := T1.facts
      obtain ⟨u', v', k0', k1', f0', f1'⟩ := T2.facts
      have TT := Lib.hid (And.intro T1 T2)
      clear T1 T2
      go_wp2_with fail
      obtain ⟨hc0, hc1, hc2, hc3, XX⟩ := two_results TT.out.1 TT.out.2 (.string ⟨#[]⟩) (.string ⟨#[]⟩) (.string ⟨#[]⟩) (.string ⟨#[]⟩) X3.out (by omega)
      change bodyPost _ _ _ _ _ (N.set2 (N.set2 w5 (w.heap.size + 1) (.string ⟨#[]⟩) (.string ⟨#[]⟩)) (w.heap.size + 1 + 1) (.string ⟨#[]⟩) (.string ⟨#[]⟩))
      generalize N.set2 (N.set2 w5 (w.heap.size + 1) (.string ⟨#[]⟩) (.string ⟨#[]⟩)) (w.heap.size + 1 + 1) (.string ⟨#[]⟩) (.string ⟨#[]⟩) = W3 at *
      exact bodyPost_ret (v := .tuple #[.agg #[.string ⟨#[]⟩, .string ⟨#[]⟩], .agg #[.string ⟨#[]⟩, .string ⟨#[]⟩], .bool false]) (by simp [results, Tryz.results14, go_sem, hc0, hc1, hc2, hc3]) rfl ⟨rfl, XX⟩
end Go.Proofs.YtpmmajfdcicjiaaGreat.N
/- A pair split into halves: the program's function and the law. -/
namespace Go.Proofs.YtpmmajfdcicjiaaGreat.N
open Go.RowKit
set_option linter.unusedVariables false
set_option linter.unusedSimpArgs false

theorem six_far {w0 W : World} {a b c g : Nat} {u0 u1 v0 v1 z0 z1 : Value} (x y : Value)
    (h : W.cell? ⟨a, 0, none⟩ = some u0 ∧ W.cell? ⟨a, 1, none⟩ = some u1 ∧ W.cell? ⟨b, 0, none⟩ = some v0 ∧ W.cell? ⟨b, 1, none⟩ = some v1 ∧ W.cell? ⟨c, 0, none⟩ = some z0 ∧ W.cell? ⟨c, 1, none⟩ = some z1 ∧ Ext w0 W) (ha : a ≠ g) (hb : b ≠ g) (hc : c ≠ g) (hg : w0.heap.size ≤ g) :
    (set2 W g x y).cell? ⟨a, 0, none⟩ = some u0 ∧ (set2 W g x y).cell? ⟨a, 1, none⟩ = some u1 ∧ (set2 W g x y).cell? ⟨b, 0, none⟩ = some v0 ∧ (set2 W g x y).cell? ⟨b, 1, none⟩ = some v1 ∧ (set2 W g x y).cell? ⟨c, 0, none⟩ = some z0 ∧ (set2 W g x y).cell? ⟨c, 1, none⟩ = some z1 ∧ Ext w0 (set2 W g x y) :=
  ⟨set2_far ha _ _ h.1, set2_far ha _ _ h.2.1, set2_far hb _ _ h.2.2.1, set2_far hb _ _ h.2.2.2.1, set2_far hc _ _ h.2.2.2.2.1, set2_far hc _ _ h.2.2.2.2.2.1, h.2.2.2.2.2.2.set2 hg _ _⟩
theorem six_far' {w0 W : World} {a b c g : Nat} {u0 u1 v0 v1 z0 z1 : Value} (x y : Value)
    (h : W.cell? ⟨a, 0, none⟩ = some u0 ∧ W.cell? ⟨a, 1, none⟩ = some u1 ∧ W.cell? ⟨b, 0, none⟩ = some v0 ∧ W.cell? ⟨b, 1, none⟩ = some v1 ∧ W.cell? ⟨c, 0, none⟩ = some z0 ∧ W.cell? ⟨c, 1, none⟩ = some z1 ∧ Ext w0 W) (ha : a ≠ g) (hb : b ≠ g) (hc : c ≠ g) (hg : w0.heap.size ≤ g) :
    ((W.setCell ⟨g, 0, none⟩ x).setCell ⟨g, 1, none⟩ y).cell? ⟨a, 0, none⟩ = some u0 ∧ ((W.setCell ⟨g, 0, none⟩ x).setCell ⟨g, 1, none⟩ y).cell? ⟨a, 1, none⟩ = some u1 ∧ ((W.setCell ⟨g, 0, none⟩ x).setCell ⟨g, 1, none⟩ y).cell? ⟨b, 0, none⟩ = some v0 ∧ ((W.setCell ⟨g, 0, none⟩ x).setCell ⟨g, 1, none⟩ y).cell? ⟨b, 1, none⟩ = some v1 ∧ ((W.setCell ⟨g, 0, none⟩ x).setCell ⟨g, 1, none⟩ y).cell? ⟨c, 0, none⟩ = some z0 ∧ ((W.setCell ⟨g, 0, none⟩ x).setCell ⟨g, 1, none⟩ y).cell? ⟨c, 1, none⟩ = some z1 ∧ Ext w0 ((W.setCell ⟨g, 0, none⟩ x).setCell ⟨g, 1, none⟩ y) := six_far x y h ha hb hc hg
theorem six_ext {w0 W W' : World} {a b c : Nat} {u0 u1 v0 v1 z0 z1 : Value}
    (h : W.cell? ⟨a, 0, none⟩ = some u0 ∧ W.cell? ⟨a, 1, none⟩ = some u1 ∧ W.cell? ⟨b, 0, none⟩ = some v0 ∧ W.cell? ⟨b, 1, none⟩ = some v1 ∧ W.cell? ⟨c, 0, none⟩ = some z0 ∧ W.cell? ⟨c, 1, none⟩ = some z1 ∧ Ext w0 W) (hx : Ext W W') :
    W'.cell? ⟨a, 0, none⟩ = some u0 ∧ W'.cell? ⟨a, 1, none⟩ = some u1 ∧ W'.cell? ⟨b, 0, none⟩ = some v0 ∧ W'.cell? ⟨b, 1, none⟩ = some v1 ∧ W'.cell? ⟨c, 0, none⟩ = some z0 ∧ W'.cell? ⟨c, 1, none⟩ = some z1 ∧ Ext w0 W' :=
  ⟨hx.cell h.1, hx.cell h.2.1, hx.cell h.2.2.1, hx.cell h.2.2.2.1, hx.cell h.2.2.2.2.1, hx.cell h.2.2.2.2.2.1, h.2.2.2.2.2.2.trans hx⟩
theorem Rep.apart {w : World} {l r : Tr} {b g : Nat} {pl pr : Option Addr} {t : TypeId} (h : w.heap[b]? = some (.cells #[.pointer pl, .pointer pr] 79)) (h2 : Two w g t) (ht : t ≠ 79) : b ≠ g := by
  rintro rfl
  obtain ⟨u, v, e⟩ := h2.at_
  rw [h] at e
  injection e with e
  injection e with _ e4
  exact ht e4.symm
set_option maxHeartbeats 3200000 in
set_option maxRecDepth 100000 in
theorem implSplit_no (s t : ByteArray) (h : ¬ Good s t) (w : World) :
    Calls Tryz.prog 9 #[.agg #[.string s, .string t]] w fun e w' => e = .returned (SpV none) ∧ Ext w w' := by
  obtain ⟨X2, t0, t1, t2⟩ := boxPP_facts w s t
  have X2 := Lib.hid X2
  have C1 := Lib.hid (pairOf_no s t h)
  clear h
  show Calls _ _ _ _ (fun e w' => e = .returned (ppb ⟨#[]⟩ ⟨#[]⟩ ⟨#[]⟩ ⟨#[]⟩ false) ∧ Ext w w')
  unfold ppb
  go_enter Tryz.func9, Tryz.ntmps9
  go_wp2_with fail
  generalize ((w.alloc (.cells #[.string s, .string t] 25)).alloc (.cells #[.string ⟨#[]⟩, .string ⟨#[]⟩] 25)).alloc (.cells #[.string ⟨#[]⟩, .string ⟨#[]⟩] 25) = W at *
  refine (C1.out _).mono ?_
  rintro e w1 ⟨pa, pb, rfl, x1⟩
  have x1 := x1.alloc (.cells #[.pointer pa, .pointer pb] 67)
  have X1 := Lib.hid (X2.out.trans x1)
  have T1 := t1.ext x1
  have T2 := t2.ext x1
  obtain ⟨u, v, k0, k1, f0, f1⟩ := T1.facts
  obtain ⟨u', v', k0', k1', f0', f1'⟩ := T2.facts
  have TT := Lib.hid (And.intro T1 T2)
  clear x1 t0 t1 t2 T1 T2
  go_wp2_with fail
  obtain ⟨hc0, hc1, hc2, hc3, XX⟩ := two_results TT.out.1 TT.out.2 (.string ⟨#[]⟩) (.string ⟨#[]⟩) (.string ⟨#[]⟩) (.string ⟨#[]⟩) X1.out (by omega)
  change bodyPost _ _ _ _ _ (N.set2 (N.set2 (w1.alloc (.cells #[.pointer pa, .pointer pb] 67)) (w.heap.size + 1) (.string ⟨#[]⟩) (.string ⟨#[]⟩)) (w.heap.size + 1 + 1) (.string ⟨#[]⟩) (.string ⟨#[]⟩))
  generalize N.set2 (N.set2 (w1.alloc (.cells #[.pointer pa, .pointer pb] 67)) (w.heap.size + 1) (.string ⟨#[]⟩) (.string ⟨#[]⟩)) (w.heap.size + 1 + 1) (.string ⟨#[]⟩) (.string ⟨#[]⟩) = W3 at *
  exact bodyPost_ret (v := .tuple #[.agg #[.string ⟨#[]⟩, .string ⟨#[]⟩], .agg #[.string ⟨#[]⟩, .string ⟨#[]⟩], .bool false]) (by simp [results, Tryz.results9, go_sem, hc0, hc1, hc2, hc3]) rfl ⟨rfl, XX⟩
set_option maxHeartbeats 6400000 in
set_option maxRecDepth 100000 in
theorem implSplit_yes (A B : Tr) (hc : A.carets = B.carets) (hB : B.carets ≤ 8) (w : World) :
    Calls Tryz.prog 9 #[.agg #[.string (tx A), .string (tx B)]] w fun e w' => e = .returned (SpV (splitT (red (A, B)))) ∧ Ext w w' := by
  obtain ⟨X2, _, t1, t2⟩ := boxPP_facts w (tx A) (tx B)
  have X2 := Lib.hid X2
  have C1 := Lib.hid (fun W => pairOf_yes A B hc hB W)
  have C2 := Lib.hid (fun pa pb W => reduced_calls A B (by omega) (by omega) pa pb W)
  have hs := red_same (p := (A, B)) hc
  have hle := (red_le (A, B)).2
  obtain ⟨C, D, hCD⟩ : ∃ C D, red (A, B) = (C, D) := ⟨_, _, rfl⟩
  rw [hCD] at C2 hs hle ⊢
  simp only at C2 hs hle
  clear hCD
  generalize tx A = a at *
  generalize tx B = b at *
  cases C with
  | leaf =>
    have C4 := Lib.hid (fun W => IdentityPair_calls W)
    clear hs hle hc hB
    show Calls _ _ _ _ (fun e w' => e = .returned (ppb (tx .leaf) (tx .leaf) (tx .leaf) (tx .leaf) true) ∧ Ext w w')
    unfold ppb
    generalize tx .leaf = z at *
    go_enter Tryz.func9, Tryz.ntmps9
    go_wp2_with fail
    generalize ((w.alloc (.cells #[.string a, .string b] 25)).alloc (.cells #[.string ⟨#[]⟩, .string ⟨#[]⟩] 25)).alloc (.cells #[.string ⟨#[]⟩, .string ⟨#[]⟩] 25) = W at *
    refine (C1.out _).mono ?_
    rintro e w1 ⟨pa, pb, rfl, rA, rB, x1⟩
    have xa := (Ext.refl w1).alloc (.cells #[.pointer pa, .pointer pb] 67)
    have RA := Lib.hid (rA.ext xa)
    have RB := Lib.hid (rB.ext xa)
    have X1 := Lib.hid (X2.out.trans (x1.trans xa))
    have T1 := Lib.hid (t1.ext (x1.trans xa))
    have T2 := Lib.hid (t2.ext (x1.trans xa))
    have T5 := Lib.hid (Two.new w1 (.pointer pa) (.pointer pb) 67 rfl)
    have G5 := Lib.hid (X2.out.trans x1).size
    have G6 := Lib.hid (And.intro (t1.ext x1) (t2.ext x1))
    clear rA rB t1 t2 x1 xa
    go_wp2_with fail
    generalize w1.alloc (.cells #[.pointer pa, .pointer pb] 67) = W1 at *
    have g1 : w.heap.size + 1 ≠ w1.heap.size := by
      obtain ⟨u, v, e⟩ := G6.out.1.at_
      have := (Array.getElem?_eq_some_iff.1 e).1; omega
    have g2 : w.heap.size + 1 + 1 ≠ w1.heap.size := by
      obtain ⟨u, v, e⟩ := G6.out.2.at_
      have := (Array.getElem?_eq_some_iff.1 e).1; omega
    have GG := Lib.hid (And.intro g1 g2)
    clear g1 g2
    refine (C2.out pa pb _ RA.out RB.out).mono ?_
    rintro e w2 ⟨q1, q2, rfl, r1, r2, x2⟩
    obtain rfl : q1 = none := r1
    have T5' := T5.out.ext x2
    obtain ⟨u, v, k0, k1, f0, f1⟩ := T5'.facts
    obtain ⟨d0, d1⟩ := cells_of (set2_heap T5' (.pointer none) (.pointer q2))
    have T1 := Lib.hid ((T1.out.ext x2).far (g := w1.heap.size) GG.out.1 (.pointer none) (.pointer q2))
    have T2 := Lib.hid ((T2.out.ext x2).far (g := w1.heap.size) GG.out.2 (.pointer none) (.pointer q2))
    have X3 := Lib.hid ((X1.out.trans x2).set2 (g := w1.heap.size) G5.out (.pointer none) (.pointer q2))
    clear x2 r2 T5'
    go_wp2_with fail
    change Calls _ _ _ (N.set2 w2 w1.heap.size (.pointer none) (.pointer q2)) _
    generalize N.set2 w2 w1.heap.size (.pointer none) (.pointer q2) = w3 at *
    refine (C4.out _).mono ?_
    rintro e w5 ⟨rfl, x5⟩
    have X5 := Lib.hid (X3.out.trans x5)
    have T1 := Lib.hid (T1.out.ext x5)
    have T2 := Lib.hid (T2.out.ext x5)
    clear x5
    go_wp2_with fail
    refine (C4.out _).mono ?_
    rintro e w6 ⟨rfl, x6⟩
    have X6 := Lib.hid (X5.out.trans x6)
    have T1 := T1.out.ext x6
    have T2 := T2.out.ext x6
    obtain ⟨u, v, k0, k1, f0, f1⟩ := T1.facts
    obtain ⟨u', v', k0', k1', f0', f1'⟩ := T2.facts
    have TT := Lib.hid (And.intro T1 T2)
    clear x6 T1 T2
    go_wp2_with fail
    obtain ⟨hc0, hc1, hc2, hc3, XX⟩ := two_results TT.out.1 TT.out.2 (.string z) (.string z) (.string z) (.string z) X6.out (by omega)
    change bodyPost _ _ _ _ _ (N.set2 (N.set2 w6 (w.heap.size + 1) (.string z) (.string z)) (w.heap.size + 1 + 1) (.string z) (.string z))
    generalize N.set2 (N.set2 w6 (w.heap.size + 1) (.string z) (.string z)) (w.heap.size + 1 + 1) (.string z) (.string z) = W3 at *
    exact bodyPost_ret (v := .tuple #[.agg #[.string z, .string z], .agg #[.string z, .string z], .bool true]) (by simp [results, Tryz.results9, go_sem, hc0, hc1, hc2, hc3]) rfl ⟨rfl, XX⟩
  | node l r =>
    cases D with
    | leaf => simp only [Tr.carets] at hs; omega
    | node l2 r2 =>
    simp only [Tr.carets] at hs hle
    have C6 := Lib.hid (fun p W h => carets_calls l p W (by omega) h)
    have C7 := Lib.hid (fun p W h => carets_calls l2 p W (by omega) h)
    have C8 := Lib.hid (fun pa pb W => plain_calls l l2 (by omega) (by omega) pa pb W)
    have C9 := Lib.hid (fun pa pb W => plain_calls r r2 (by omega) (by omega) pa pb W)
    by_cases hll : l.carets = l2.carets
    · have e1 : splitT (.node l r, .node l2 r2) = some ((l, l2), (r, r2)) := if_pos hll
      have q1 : ((l.carets : Int) != (l2.carets : Int)) = false := by rw [hll]; simp
      rw [e1]
      clear hs hle hc hB hll e1
      show Calls _ _ _ _ (fun e w' => e = .returned (ppb (tx l) (tx l2) (tx r) (tx r2) true) ∧ Ext w w')
      unfold ppb
      generalize tx l = sl at *
      generalize tx r = sr at *
      generalize tx l2 = sl2 at *
      generalize tx r2 = sr2 at *
      go_enter Tryz.func9, Tryz.ntmps9
      go_wp2_with fail
      generalize ((w.alloc (.cells #[.string a, .string b] 25)).alloc (.cells #[.string ⟨#[]⟩, .string ⟨#[]⟩] 25)).alloc (.cells #[.string ⟨#[]⟩, .string ⟨#[]⟩] 25) = W at *
      refine (C1.out _).mono ?_
      rintro e w1 ⟨pa, pb, rfl, rA, rB, x1⟩
      have xa := (Ext.refl w1).alloc (.cells #[.pointer pa, .pointer pb] 67)
      have RA := Lib.hid (rA.ext xa)
      have RB := Lib.hid (rB.ext xa)
      have X1 := Lib.hid (X2.out.trans (x1.trans xa))
      have T1 := Lib.hid (t1.ext (x1.trans xa))
      have T2 := Lib.hid (t2.ext (x1.trans xa))
      have T5 := Lib.hid (Two.new w1 (.pointer pa) (.pointer pb) 67 rfl)
      have G5 := Lib.hid (X2.out.trans x1).size
      have G6 := Lib.hid (And.intro (t1.ext x1) (t2.ext x1))
      clear rA rB t1 t2 x1 xa
      go_wp2_with fail
      generalize w1.alloc (.cells #[.pointer pa, .pointer pb] 67) = W1 at *
      have g1 : w.heap.size + 1 ≠ w1.heap.size := by
        obtain ⟨u, v, e⟩ := G6.out.1.at_
        have := (Array.getElem?_eq_some_iff.1 e).1; omega
      have g2 : w.heap.size + 1 + 1 ≠ w1.heap.size := by
        obtain ⟨u, v, e⟩ := G6.out.2.at_
        have := (Array.getElem?_eq_some_iff.1 e).1; omega
      have GG := Lib.hid (And.intro g1 g2)
      clear g1 g2
      refine (C2.out pa pb _ RA.out RB.out).mono ?_
      rintro e w2 ⟨q1, q2, rfl, r1, r2, x2⟩
      have T5' := T5.out.ext x2
      obtain ⟨u, v, k0, k1, f0, f1⟩ := T5'.facts
      obtain ⟨d0, d1⟩ := cells_of (set2_heap T5' (.pointer q1) (.pointer q2))
      have R1 := Rep.set2 T5' (by decide) (.pointer q1) (.pointer q2) r1
      have R2 := Rep.set2 T5' (by decide) (.pointer q1) (.pointer q2) r2
      have T1 := Lib.hid ((T1.out.ext x2).far (g := w1.heap.size) GG.out.1 (.pointer q1) (.pointer q2))
      have T2 := Lib.hid ((T2.out.ext x2).far (g := w1.heap.size) GG.out.2 (.pointer q1) (.pointer q2))
      have X3 := Lib.hid ((X1.out.trans x2).set2 (g := w1.heap.size) G5.out (.pointer q1) (.pointer q2))
      obtain ⟨b1, pl, pr, rfl, hb1, hl, hr⟩ := R1
      obtain ⟨b2, pl2, pr2, rfl, hb2, hl2, hr2⟩ := R2
      have BB := Lib.hid (And.intro (And.intro (Rep.apart (l := l) (r := r) hb1 T1.out (by decide)) (Rep.apart (l := l) (r := r) hb1 T2.out (by decide))) (And.intro (Rep.apart (l := l) (r := r) hb2 T1.out (by decide)) (Rep.apart (l := l) (r := r) hb2 T2.out (by decide))))
      obtain ⟨e10, e11⟩ := cells_of hb1
      obtain ⟨e20, e21⟩ := cells_of hb2
      have HL := Lib.hid hl
      have HR := Lib.hid hr
      have HL2 := Lib.hid hl2
      have HR2 := Lib.hid hr2
      clear x2 r1 r2 T5' hl hr hl2 hr2 hb1 hb2
      go_wp2_with fail
      change Code.wp _ _ _ _ (N.set2 w2 w1.heap.size (.pointer (some ⟨b1, 0, none⟩)) (.pointer (some ⟨b2, 0, none⟩)))
      generalize N.set2 w2 w1.heap.size (.pointer (some ⟨b1, 0, none⟩)) (.pointer (some ⟨b2, 0, none⟩)) = w3 at *
      go_quiet (first
        | (go_at_call_of 50 (Value.pointer pl); exact Calls.quiet_of (C6.out _ _ (HL.out.ext ((Ext.refl _).drewN _))))
        | (go_at_call_of 50 (Value.pointer pl2); exact Calls.quiet_of (C7.out _ _ (HL2.out.ext ((Ext.refl _).drewN _))))
        | fail)
      have xd : Ext w3 (w3.drewN nq) := (Ext.refl _).drewN _
      have X3 := Lib.hid (X3.out.trans xd)
      have T1 := Lib.hid (T1.out.ext xd)
      have T2 := Lib.hid (T2.out.ext xd)
      have HL := Lib.hid (HL.out.ext xd)
      have HR := Lib.hid (HR.out.ext xd)
      have HL2 := Lib.hid (HL2.out.ext xd)
      have HR2 := Lib.hid (HR2.out.ext xd)
      have d0 := xd.cell d0
      have d1 := xd.cell d1
      have e10 := xd.cell e10
      have e11 := xd.cell e11
      have e20 := xd.cell e20
      have e21 := xd.cell e21
      clear xd
      generalize w3.drewN nq = w4 at *
      go_wp2_with fail
      have SX := Lib.hid (And.intro d0 (And.intro d1 (And.intro e10 (And.intro e11 (And.intro e20 (And.intro e21 X3.out))))))
      go_region_held3 (fun w' => w'.cell? ⟨w1.heap.size, 0, none⟩ = some (.pointer (some ⟨b1, 0, none⟩)) ∧ w'.cell? ⟨w1.heap.size, 1, none⟩ = some (.pointer (some ⟨b2, 0, none⟩)) ∧ w'.cell? ⟨b1, 0, none⟩ = some (.pointer pl) ∧ w'.cell? ⟨b1, 1, none⟩ = some (.pointer pr) ∧ w'.cell? ⟨b2, 0, none⟩ = some (.pointer pl2) ∧ w'.cell? ⟨b2, 1, none⟩ = some (.pointer pr2) ∧ Ext w w')
        (first
          | with_reducible exact six_ext SX.out (Ext.refl _).drew
          | with_reducible exact six_ext SX.out x6
          | with_reducible exact six_ext SX.out x5
          | with_reducible exact six_far' _ _ (six_ext SX.out x6) GG.out.1.symm BB.out.1.1 BB.out.2.1 (Nat.le_succ _)
          | with_reducible exact six_far' _ _ (six_ext SX.out x6) GG.out.2.symm BB.out.1.2 BB.out.2.2 (Nat.le_succ_of_le (Nat.le_succ _))
          | with_reducible exact six_far' _ _ (six_far' _ _ (six_ext SX.out x6) GG.out.1.symm BB.out.1.1 BB.out.2.1 (Nat.le_succ _)) GG.out.2.symm BB.out.1.2 BB.out.2.2 (Nat.le_succ_of_le (Nat.le_succ _))
          | fail)
        (first
          | (go_at_call_of 51 (Value.agg #[.pointer pl, .pointer pl2]); refine (C8.out _ _ _ (HL.out.ext (Ext.refl _).drew) (HL2.out.ext (Ext.refl _).drew)).mono ?_; rintro e w5 ⟨rfl, hx5⟩; have x5 := (Ext.refl w4).drew.trans hx5)
          | (go_at_call_of 51 (Value.agg #[.pointer pr, .pointer pr2]); refine (C9.out _ _ _ (HR.out.ext x5) (HR2.out.ext x5)).mono ?_; rintro e w6 ⟨rfl, hx6⟩; have x6 := x5.trans hx6; obtain ⟨u, v, k0, k1, f0, f1⟩ := (T1.out.ext x6).facts; obtain ⟨u', v', k0', k1', f0', f1'⟩ := (T2.out.ext x6).facts)
          | fail)
      have TT := Lib.hid (And.intro (T1.out.ext x6) (T2.out.ext x6))
      have X6 := Lib.hid (X3.out.trans x6)
      clear x5 x6 hx5 hx6 k0 k1 f0 f1 k0' k1' f0' f1'
      obtain ⟨hc0, hc1, hc2, hc3, XX⟩ := two_results TT.out.1 TT.out.2 (.string sl) (.string sl2) (.string sr) (.string sr2) X6.out (by omega)
      change Exit.then _ _ _ _ (N.set2 (N.set2 w6 (w.heap.size + 1) (.string sl) (.string sl2)) (w.heap.size + 1 + 1) (.string sr) (.string sr2))
      generalize N.set2 (N.set2 w6 (w.heap.size + 1) (.string sl) (.string sl2)) (w.heap.size + 1 + 1) (.string sr) (.string sr2) = W3 at *
      go_wp2_with fail
      exact bodyPost_ret (v := .tuple #[.agg #[.string sl, .string sl2], .agg #[.string sr, .string sr2], .bool true]) (by simp [results, Tryz.results9, go_sem, hc0, hc1, hc2, hc3]) rfl ⟨rfl, XX⟩
    · have e1 : splitT (.node l r, .node l2 r2) = none := if_neg hll
      have q1 : ((l.carets : Int) != (l2.carets : Int)) = true := by rw [bne_iff_ne]; omega
      rw [e1]
      clear hs hle hc hB hll e1 C8 C9
      show Calls _ _ _ _ (fun e w' => e = .returned (ppb ⟨#[]⟩ ⟨#[]⟩ ⟨#[]⟩ ⟨#[]⟩ false) ∧ Ext w w')
      unfold ppb
      go_enter Tryz.func9, Tryz.ntmps9
      go_wp2_with fail
      generalize ((w.alloc (.cells #[.string a, .string b] 25)).alloc (.cells #[.string ⟨#[]⟩, .string ⟨#[]⟩] 25)).alloc (.cells #[.string ⟨#[]⟩, .string ⟨#[]⟩] 25) = W at *
      refine (C1.out _).mono ?_
      rintro e w1 ⟨pa, pb, rfl, rA, rB, x1⟩
      have xa := (Ext.refl w1).alloc (.cells #[.pointer pa, .pointer pb] 67)
      have RA := Lib.hid (rA.ext xa)
      have RB := Lib.hid (rB.ext xa)
      have X1 := Lib.hid (X2.out.trans (x1.trans xa))
      have T1 := Lib.hid (t1.ext (x1.trans xa))
      have T2 := Lib.hid (t2.ext (x1.trans xa))
      have T5 := Lib.hid (Two.new w1 (.pointer pa) (.pointer pb) 67 rfl)
      have G5 := Lib.hid (X2.out.trans x1).size
      have G6 := Lib.hid (And.intro (t1.ext x1) (t2.ext x1))
      clear rA rB t1 t2 x1 xa
      go_wp2_with fail
      generalize w1.alloc (.cells #[.pointer pa, .pointer pb] 67) = W1 at *
      have g1 : w.heap.size + 1 ≠ w1.heap.size := by
        obtain ⟨u, v, e⟩ := G6.out.1.at_
        have := (Array.getElem?_eq_some_iff.1 e).1; omega
      have g2 : w.heap.size + 1 + 1 ≠ w1.heap.size := by
        obtain ⟨u, v, e⟩ := G6.out.2.at_
        have := (Array.getElem?_eq_some_iff.1 e).1; omega
      have GG := Lib.hid (And.intro g1 g2)
      clear g1 g2
      refine (C2.out pa pb _ RA.out RB.out).mono ?_
      rintro e w2 ⟨q1, q2, rfl, r1, r2, x2⟩
      have T5' := T5.out.ext x2
      obtain ⟨u, v, k0, k1, f0, f1⟩ := T5'.facts
      obtain ⟨d0, d1⟩ := cells_of (set2_heap T5' (.pointer q1) (.pointer q2))
      have R1 := Rep.set2 T5' (by decide) (.pointer q1) (.pointer q2) r1
      have R2 := Rep.set2 T5' (by decide) (.pointer q1) (.pointer q2) r2
      have T1 := Lib.hid ((T1.out.ext x2).far (g := w1.heap.size) GG.out.1 (.pointer q1) (.pointer q2))
      have T2 := Lib.hid ((T2.out.ext x2).far (g := w1.heap.size) GG.out.2 (.pointer q1) (.pointer q2))
      have X3 := Lib.hid ((X1.out.trans x2).set2 (g := w1.heap.size) G5.out (.pointer q1) (.pointer q2))
      obtain ⟨b1, pl, pr, rfl, hb1, hl, hr⟩ := R1
      obtain ⟨b2, pl2, pr2, rfl, hb2, hl2, hr2⟩ := R2
      have BB := Lib.hid (And.intro (And.intro (Rep.apart (l := l) (r := r) hb1 T1.out (by decide)) (Rep.apart (l := l) (r := r) hb1 T2.out (by decide))) (And.intro (Rep.apart (l := l) (r := r) hb2 T1.out (by decide)) (Rep.apart (l := l) (r := r) hb2 T2.out (by decide))))
      obtain ⟨e10, e11⟩ := cells_of hb1
      obtain ⟨e20, e21⟩ := cells_of hb2
      have HL := Lib.hid hl
      have HR := Lib.hid hr
      have HL2 := Lib.hid hl2
      have HR2 := Lib.hid hr2
      clear x2 r1 r2 T5' hl hr hl2 hr2 hb1 hb2
      go_wp2_with fail
      change Code.wp _ _ _ _ (N.set2 w2 w1.heap.size (.pointer (some ⟨b1, 0, none⟩)) (.pointer (some ⟨b2, 0, none⟩)))
      generalize N.set2 w2 w1.heap.size (.pointer (some ⟨b1, 0, none⟩)) (.pointer (some ⟨b2, 0, none⟩)) = w3 at *
      go_quiet (first
        | (go_at_call_of 50 (Value.pointer pl); exact Calls.quiet_of (C6.out _ _ (HL.out.ext ((Ext.refl _).drewN _))))
        | (go_at_call_of 50 (Value.pointer pl2); exact Calls.quiet_of (C7.out _ _ (HL2.out.ext ((Ext.refl _).drewN _))))
        | fail)
      have xd : Ext w3 (w3.drewN nq) := (Ext.refl _).drewN _
      have X3 := Lib.hid (X3.out.trans xd)
      have T1 := Lib.hid (T1.out.ext xd)
      have T2 := Lib.hid (T2.out.ext xd)
      have HL := Lib.hid (HL.out.ext xd)
      have HR := Lib.hid (HR.out.ext xd)
      have HL2 := Lib.hid (HL2.out.ext xd)
      have HR2 := Lib.hid (HR2.out.ext xd)
      have d0 := xd.cell d0
      have d1 := xd.cell d1
      have e10 := xd.cell e10
      have e11 := xd.cell e11
      have e20 := xd.cell e20
      have e21 := xd.cell e21
      clear xd
      generalize w3.drewN nq = w4 at *
      have T1 := T1.out
      have T2 := T2.out
      obtain ⟨u, v, k0, k1, f0, f1⟩ := T1.facts
      obtain ⟨u', v', k0', k1', f0', f1'⟩ := T2.facts
      have TT := Lib.hid (And.intro T1 T2)
      clear T1 T2
      go_wp2_with fail
      obtain ⟨hc0, hc1, hc2, hc3, XX⟩ := two_results TT.out.1 TT.out.2 (.string ⟨#[]⟩) (.string ⟨#[]⟩) (.string ⟨#[]⟩) (.string ⟨#[]⟩) X3.out (by omega)
      change bodyPost _ _ _ _ _ (N.set2 (N.set2 w4 (w.heap.size + 1) (.string ⟨#[]⟩) (.string ⟨#[]⟩)) (w.heap.size + 1 + 1) (.string ⟨#[]⟩) (.string ⟨#[]⟩))
      generalize N.set2 (N.set2 w4 (w.heap.size + 1) (.string ⟨#[]⟩) (.string ⟨#[]⟩)) (w.heap.size + 1 + 1) (.string ⟨#[]⟩) (.string ⟨#[]⟩) = W3 at *
      exact bodyPost_ret (v := .tuple #[.agg #[.string ⟨#[]⟩, .string ⟨#[]⟩], .agg #[.string ⟨#[]⟩, .string ⟨#[]⟩], .bool false]) (by simp [results, Tryz.results9, go_sem, hc0, hc1, hc2, hc3]) rfl ⟨rfl, XX⟩

theorem SpV_ppb (o : Option ((Tr × Tr) × (Tr × Tr))) : ∃ a b c d f, SpV o = ppb a b c d f := by
  cases o with
  | none => exact ⟨_, _, _, _, _, rfl⟩
  | some x => exact ⟨_, _, _, _, _, rfl⟩
theorem both_SplitHalves (s t : ByteArray) : ∃ a b c d f, (∀ w, Calls Tryz.prog 14 #[.agg #[.string s, .string t]] w fun e w' => e = .returned (ppb a b c d f) ∧ Ext w w') ∧ ∀ w, Calls Tryz.prog 9 #[.agg #[.string s, .string t]] w fun e w' => e = .returned (ppb a b c d f) ∧ Ext w w' := by
  by_cases h : Good s t
  · obtain ⟨A, B, rfl, rfl, h1, h2⟩ := h
    obtain ⟨a, b, c, d, f, e⟩ := SpV_ppb (splitT (red (A, B)))
    refine ⟨a, b, c, d, f, ?_⟩
    rw [← e]
    exact ⟨specSplit_yes A B h1 h2, implSplit_yes A B h1 h2⟩
  · exact ⟨_, _, _, _, _, specSplit_no s t h, implSplit_no s t h⟩
end Go.Proofs.YtpmmajfdcicjiaaGreat.N
