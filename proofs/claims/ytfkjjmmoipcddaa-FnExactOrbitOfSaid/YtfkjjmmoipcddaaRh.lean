import Derived.Test.YtfkjjmmoipcddaaBa
import Derived.Test.YtfkjjmmoipcddaaPu
import Derived.Test.YtfkjjmmoipcddaaSl
import Derived.Test.YtfkjjmmoipcddaaProg
import Derived.Test.YtfkjjmmoipcddaaTn
import Derived.Test.YtfkjjmmoipcddaaTs
import Derived.Test.YtfkjjmmoipcddaaPp
import Derived.Test.YtfkjjmmoipcddaaPh
import Derived.Test.YtfkjjmmoipcddaaWl
import Derived.Test.YtfkjjmmoipcddaaTp
import Derived.Test.YtfkjjmmoipcddaaTr
import Derived.Test.YtfkjjmmoipcddaaTu
import Derived.Test.YtfkjjmmoipcddaaSx
import Derived.Test.YtfkjjmmoipcddaaSy
import Derived.Test.YtfkjjmmoipcddaaSz
import Derived.Test.YtfkjjmmoipcddaaWp
import Derived.Test.YtfkjjmmoipcddaaWq
import Derived.Deep.LoopGhost
import Derived.StillTailTactics
import Derived.Deep.RegionHeld3
import Derived.Deep.QuietTactic
/- A pair split into halves: both functions and the law. -/
namespace Go.Proofs.Ytfkjjmmoipcddaa.N
open Go.RowKit
set_option linter.unusedVariables false
set_option linter.unusedSimpArgs false

theorem prUnit_calls (w : World) : Calls Try.prog 70 #[] w fun e w' => e = .returned (.agg #[.string (tx .leaf), .string (tx .leaf)]) ∧ Ext w w' := by
  have X1 := Lib.hid ((Ext.refl w).alloc (.cells #[.string ⟨#[46]⟩, .string ⟨#[46]⟩] 29))
  obtain ⟨hc0, hc1⟩ := cells_of (heap_alloc_new w (.cells #[.string ⟨#[46]⟩, .string ⟨#[46]⟩] 29))
  go_enter Try.func70, Try.ntmps70
  go_wp2_with fail
  exact bodyPost_ret (v := .agg #[.string ⟨#[46]⟩, .string ⟨#[46]⟩]) (by simp [results, Try.results70, go_sem, hc0, hc1]) rfl ⟨rfl, X1.out⟩
theorem IdentityPair_calls (w : World) : Calls Try.prog 73 #[] w fun e w' => e = .returned (.agg #[.string (tx .leaf), .string (tx .leaf)]) ∧ Ext w w' := by
  have X1 := Lib.hid ((Ext.refl w).alloc (.cells #[.string ⟨#[46]⟩, .string ⟨#[46]⟩] 29))
  obtain ⟨hc0, hc1⟩ := cells_of (heap_alloc_new w (.cells #[.string ⟨#[46]⟩, .string ⟨#[46]⟩] 29))
  go_enter Try.func73, Try.ntmps73
  go_wp2_with fail
  exact bodyPost_ret (v := .agg #[.string ⟨#[46]⟩, .string ⟨#[46]⟩]) (by simp [results, Try.results73, go_sem, hc0, hc1]) rfl ⟨rfl, X1.out⟩

/-- Two pairs and a bool. -/
def ppb (a b c d : ByteArray) (f : Bool) : Value := .tuple #[.agg #[.string a, .string b], .agg #[.string c, .string d], .bool f]
theorem Two.far {w : World} {g k : Nat} {t : TypeId} (h : Two w k t) (hk : k ≠ g) (a b : Value) : Two (set2 w g a b) k t := let ⟨u, v, e⟩ := h.at_; ⟨u, v, (set2_other hk a b).trans e⟩
theorem two_results {w0 W : World} {g : Nat} {t : TypeId} (T1 : Two W g t) (T2 : Two W (g + 1) t) (a b c d : Value) (hx : Ext w0 W) (hg : w0.heap.size ≤ g) :
    (set2 (set2 W g a b) (g + 1) c d).cell? ⟨g, 0, none⟩ = some a ∧ (set2 (set2 W g a b) (g + 1) c d).cell? ⟨g, 1, none⟩ = some b ∧
    (set2 (set2 W g a b) (g + 1) c d).cell? ⟨g + 1, 0, none⟩ = some c ∧ (set2 (set2 W g a b) (g + 1) c d).cell? ⟨g + 1, 1, none⟩ = some d ∧ Ext w0 (set2 (set2 W g a b) (g + 1) c d) := by
  obtain ⟨a0, a1⟩ := cells_of (set2_heap T1 a b)
  obtain ⟨c0, c1⟩ := cells_of (set2_heap (T2.far (g := g) (by omega) a b) c d)
  exact ⟨set2_far (by simp) _ _ a0, set2_far (by simp) _ _ a1, c0, c1, (hx.set2 hg a b).set2 (by omega) c d⟩
theorem boxPP_facts (w : World) (s t : ByteArray) :
    Ext w (((w.alloc (.cells #[.string s, .string t] 29)).alloc (.cells #[.string ⟨#[]⟩, .string ⟨#[]⟩] 29)).alloc (.cells #[.string ⟨#[]⟩, .string ⟨#[]⟩] 29)) ∧
    Two (((w.alloc (.cells #[.string s, .string t] 29)).alloc (.cells #[.string ⟨#[]⟩, .string ⟨#[]⟩] 29)).alloc (.cells #[.string ⟨#[]⟩, .string ⟨#[]⟩] 29)) w.heap.size 29 ∧
    Two (((w.alloc (.cells #[.string s, .string t] 29)).alloc (.cells #[.string ⟨#[]⟩, .string ⟨#[]⟩] 29)).alloc (.cells #[.string ⟨#[]⟩, .string ⟨#[]⟩] 29)) (w.heap.size + 1) 29 ∧
    Two (((w.alloc (.cells #[.string s, .string t] 29)).alloc (.cells #[.string ⟨#[]⟩, .string ⟨#[]⟩] 29)).alloc (.cells #[.string ⟨#[]⟩, .string ⟨#[]⟩] 29)) (w.heap.size + 1 + 1) 29 :=
  ⟨(((Ext.refl w).alloc _).alloc _).alloc _, ((Two.new w _ _ _ rfl).ext ((Ext.refl _).alloc _)).ext ((Ext.refl _).alloc _), (Two.new _ _ _ _ (by simp)).ext ((Ext.refl _).alloc _), Two.new _ _ _ _ (by simp)⟩
/-- What splitting gives. -/
def splitT (p : Tr × Tr) : Option ((Tr × Tr) × (Tr × Tr)) :=
  match p with
  | (.leaf, _) => some ((.leaf, .leaf), (.leaf, .leaf))
  | (.node l r, .node a b) => if l.carets = a.carets then some ((l, a), (r, b)) else none
  | (.node _ _, .leaf) => none
def SpV (o : Option ((Tr × Tr) × (Tr × Tr))) : Value := match o with
  | some (x, y) => ppb (tx x.1) (tx x.2) (tx y.1) (tx y.2) true
  | none => ppb ⟨#[]⟩ ⟨#[]⟩ ⟨#[]⟩ ⟨#[]⟩ false

set_option maxHeartbeats 3200000 in
set_option maxRecDepth 100000 in
theorem specSplit_no (s t : ByteArray) (h : ¬ Good s t) (w : World) :
    Calls Try.prog 24 #[.agg #[.string s, .string t]] w fun e w' => e = .returned (SpV none) ∧ Ext w w' := by
  obtain ⟨X2, t0, t1, t2⟩ := boxPP_facts w s t
  have X2 := Lib.hid X2
  have C1 := Lib.hid (fun W => prGood_no s t h W)
  clear h
  show Calls _ _ _ _ (fun e w' => e = .returned (ppb ⟨#[]⟩ ⟨#[]⟩ ⟨#[]⟩ ⟨#[]⟩ false) ∧ Ext w w')
  unfold ppb
  go_enter Try.func24, Try.ntmps24
  go_wp2_with fail
  generalize ((w.alloc (.cells #[.string s, .string t] 29)).alloc (.cells #[.string ⟨#[]⟩, .string ⟨#[]⟩] 29)).alloc (.cells #[.string ⟨#[]⟩, .string ⟨#[]⟩] 29) = W at *
  refine (C1.out _).mono ?_
  rintro e w1 ⟨rfl, x1⟩
  have X1 := Lib.hid (X2.out.trans x1)
  have T1 := t1.ext x1
  have T2 := t2.ext x1
  obtain ⟨u, v, k0, k1, f0, f1⟩ := T1.facts
  obtain ⟨u', v', k0', k1', f0', f1'⟩ := T2.facts
  have TT := Lib.hid (And.intro T1 T2)
  clear x1 t0 t1 t2 T1 T2
  go_wp2_with fail
  obtain ⟨hc0, hc1, hc2, hc3, XX⟩ := two_results TT.out.1 TT.out.2 (.string ⟨#[]⟩) (.string ⟨#[]⟩) (.string ⟨#[]⟩) (.string ⟨#[]⟩) X1.out (by omega)
  change bodyPost _ _ _ _ _ (N.set2 (N.set2 w1 (w.heap.size + 1) (.string ⟨#[]⟩) (.string ⟨#[]⟩)) (w.heap.size + 1 + 1) (.string ⟨#[]⟩) (.string ⟨#[]⟩))
  generalize N.set2 (N.set2 w1 (w.heap.size + 1) (.string ⟨#[]⟩) (.string ⟨#[]⟩)) (w.heap.size + 1 + 1) (.string ⟨#[]⟩) (.string ⟨#[]⟩) = W3 at *
  exact bodyPost_ret (v := .tuple #[.agg #[.string ⟨#[]⟩, .string ⟨#[]⟩], .agg #[.string ⟨#[]⟩, .string ⟨#[]⟩], .bool false]) (by simp [results, Try.results24, go_sem, hc0, hc1, hc2, hc3]) rfl ⟨rfl, XX⟩
set_option maxHeartbeats 3200000 in
set_option maxRecDepth 100000 in
theorem specSplit_yes (A B : Tr) (hc : A.carets = B.carets) (hB : B.carets ≤ 8) (w : World) :
    Calls Try.prog 24 #[.agg #[.string (tx A), .string (tx B)]] w fun e w' => e = .returned (SpV (splitT (red (A, B)))) ∧ Ext w w' := by
  obtain ⟨X2, t0, t1, t2⟩ := boxPP_facts w (tx A) (tx B)
  have X2 := Lib.hid X2
  have C1 := Lib.hid (fun W => prGood_yes A B hc hB W)
  have C2 := Lib.hid (fun W => prReduce_calls A B (by omega) (by omega) W)
  have hs := red_same (p := (A, B)) hc
  have hle := (red_le (A, B)).2
  have hbo := red_both (A, B)
  have B0 : Hid ((((w.alloc (.cells #[.string (tx A), .string (tx B)] 29)).alloc (.cells #[.string ⟨#[]⟩, .string ⟨#[]⟩] 29)).alloc (.cells #[.string ⟨#[]⟩, .string ⟨#[]⟩] 29)).heap[w.heap.size]? = some (.cells #[.string (tx A), .string (tx B)] 29)) := (((Ext.refl _).alloc _).alloc _).at (heap_alloc_new w _)
  obtain ⟨C, D, hCD⟩ : ∃ C D, red (A, B) = (C, D) := ⟨_, _, rfl⟩
  rw [hCD] at C2 hs hle hbo ⊢
  simp only at C2 hs hle hbo
  clear hCD
  generalize tx A = a at *
  generalize tx B = b at *
  cases C with
  | leaf =>
    have C3 := Lib.hid (fun W => trLeaf_leaf W)
    have C4 := Lib.hid (fun W => prUnit_calls W)
    clear hs hle hbo hc hB
    show Calls _ _ _ _ (fun e w' => e = .returned (ppb (tx .leaf) (tx .leaf) (tx .leaf) (tx .leaf) true) ∧ Ext w w')
    unfold ppb
    generalize tx .leaf = z at *
    generalize tx D = y at *
    go_enter Try.func24, Try.ntmps24
    go_wp2_with fail
    generalize ((w.alloc (.cells #[.string a, .string b] 29)).alloc (.cells #[.string ⟨#[]⟩, .string ⟨#[]⟩] 29)).alloc (.cells #[.string ⟨#[]⟩, .string ⟨#[]⟩] 29) = W at *
    refine (C1.out _).mono ?_
    rintro e w1 ⟨rfl, x1⟩
    obtain ⟨c0, c1⟩ := cells_of (x1.at B0.out)
    have X1 := Lib.hid (X2.out.trans x1)
    have T1 := Lib.hid (t1.ext x1)
    have T2 := Lib.hid (t2.ext x1)
    have T0 := Lib.hid (t0.ext x1)
    clear x1 t0 t1 t2
    go_wp2_with fail
    refine (C2.out _).mono ?_
    rintro e w2 ⟨rfl, x2⟩
    have X2' := X1.out.trans x2
    have T0' := T0.out.ext x2
    obtain ⟨u, v, k0, k1, f0, f1⟩ := T0'.facts
    obtain ⟨d0, d1⟩ := cells_of (set2_heap T0' (.string z) (.string y))
    have T1 := Lib.hid ((T1.out.ext x2).far (g := w.heap.size) (by omega) (.string z) (.string y))
    have T2 := Lib.hid ((T2.out.ext x2).far (g := w.heap.size) (by omega) (.string z) (.string y))
    have X3 := Lib.hid (X2'.set2 (g := w.heap.size) (Nat.le_refl _) (.string z) (.string y))
    clear x2 c0 c1 X2' T0 T0'
    go_wp2_with fail
    change Calls _ _ _ (N.set2 w2 w.heap.size (.string z) (.string y)) _
    generalize N.set2 w2 w.heap.size (.string z) (.string y) = w3 at *
    refine (C3.out _).mono ?_
    rintro e w4 ⟨rfl, rfl⟩
    go_wp2_with fail
    refine (C4.out _).mono ?_
    rintro e w5 ⟨rfl, x5⟩
    have X5 := Lib.hid (X3.out.trans x5)
    have T1 := Lib.hid (T1.out.ext x5)
    have T2 := Lib.hid (T2.out.ext x5)
    clear x5
    go_wp2_with fail
    refine (C4.out _).mono ?_
    rintro e w6 ⟨rfl, x6⟩
    have X6 := Lib.hid (X5.out.trans x6)
    have T1 := T1.out.ext x6
    have T2 := T2.out.ext x6
    obtain ⟨u, v, k0, k1, f0, f1⟩ := T1.facts
    obtain ⟨u', v', k0', k1', f0', f1'⟩ := T2.facts
    have TT := Lib.hid (And.intro T1 T2)
    clear x6 T1 T2
    go_wp2_with fail
    obtain ⟨hc0, hc1, hc2, hc3, XX⟩ := two_results TT.out.1 TT.out.2 (.string z) (.string z) (.string z) (.string z) X6.out (by omega)
    change bodyPost _ _ _ _ _ (N.set2 (N.set2 w6 (w.heap.size + 1) (.string z) (.string z)) (w.heap.size + 1 + 1) (.string z) (.string z))
    generalize N.set2 (N.set2 w6 (w.heap.size + 1) (.string z) (.string z)) (w.heap.size + 1 + 1) (.string z) (.string z) = W3 at *
    exact bodyPost_ret (v := .tuple #[.agg #[.string z, .string z], .agg #[.string z, .string z], .bool true]) (by simp [results, Try.results24, go_sem, hc0, hc1, hc2, hc3]) rfl ⟨rfl, XX⟩
  | node l r =>
    cases D with
    | leaf => simp only [Tr.carets] at hs; omega
    | node l2 r2 =>
    have C3 := Lib.hid (fun W => trLeaf_node l r W)
    simp only [Tr.carets] at hs hle
    have dp1 := (Tr.node l r).depth_le
    have dp2 := (Tr.node l2 r2).depth_le
    simp only [Tr.carets] at dp1 dp2
    have C4 := Lib.hid (fun W => trSides_calls l r (by omega) (by simp only [Tr.carets]; omega) W)
    have C5 := Lib.hid (fun W => trSides_calls l2 r2 (by omega) (by simp only [Tr.carets]; omega) W)
    have C6 := Lib.hid (fun W => trCarets_tree l (by omega) W)
    have C7 := Lib.hid (fun W => trCarets_tree l2 (by omega) W)
    have C8 := Lib.hid (fun W => prReduce_calls l l2 (by omega) (by omega) W)
    have C9 := Lib.hid (fun W => prReduce_calls r r2 (by omega) (by omega) W)
    by_cases hll : l.carets = l2.carets
    · have e1 : splitT (.node l r, .node l2 r2) = some ((l, l2), (r, r2)) := if_pos hll
      have hh := red_halves hbo hll (by omega)
      rw [red_nil hh.1] at C8
      rw [red_nil hh.2] at C9
      have q1 : ((l.carets : Int) != (l2.carets : Int)) = false := by rw [hll]; simp
      rw [e1]
      clear hs hle hbo hc hB dp1 dp2 hll e1 hh
      show Calls _ _ _ _ (fun e w' => e = .returned (ppb (tx l) (tx l2) (tx r) (tx r2) true) ∧ Ext w w')
      unfold ppb
      generalize tx (.node l r) = z at *
      generalize tx (.node l2 r2) = y at *
      generalize tx l = sl at *
      generalize tx r = sr at *
      generalize tx l2 = sl2 at *
      generalize tx r2 = sr2 at *
      go_enter Try.func24, Try.ntmps24
      go_wp2_with fail
      generalize ((w.alloc (.cells #[.string a, .string b] 29)).alloc (.cells #[.string ⟨#[]⟩, .string ⟨#[]⟩] 29)).alloc (.cells #[.string ⟨#[]⟩, .string ⟨#[]⟩] 29) = W at *
      refine (C1.out _).mono ?_
      rintro e w1 ⟨rfl, x1⟩
      obtain ⟨c0, c1⟩ := cells_of (x1.at B0.out)
      have X1 := Lib.hid (X2.out.trans x1)
      have T1 := Lib.hid (t1.ext x1)
      have T2 := Lib.hid (t2.ext x1)
      have T0 := Lib.hid (t0.ext x1)
      clear x1 t0 t1 t2
      go_wp2_with fail
      refine (C2.out _).mono ?_
      rintro e w2 ⟨rfl, x2⟩
      have X2' := X1.out.trans x2
      have T0' := T0.out.ext x2
      obtain ⟨u, v, k0, k1, f0, f1⟩ := T0'.facts
      obtain ⟨d0, d1⟩ := cells_of (set2_heap T0' (.string z) (.string y))
      have T1 := Lib.hid ((T1.out.ext x2).far (g := w.heap.size) (by omega) (.string z) (.string y))
      have T2 := Lib.hid ((T2.out.ext x2).far (g := w.heap.size) (by omega) (.string z) (.string y))
      have X3 := Lib.hid (X2'.set2 (g := w.heap.size) (Nat.le_refl _) (.string z) (.string y))
      clear x2 c0 c1 X2' T0 T0'
      go_wp2_with fail
      change Calls _ _ _ (N.set2 w2 w.heap.size (.string z) (.string y)) _
      generalize N.set2 w2 w.heap.size (.string z) (.string y) = w3 at *
      refine (C3.out _).mono ?_
      rintro e w4 ⟨rfl, rfl⟩
      go_wp2_with fail
      refine (C4.out _).mono ?_
      rintro e w4 ⟨rfl, n4, rfl⟩
      have xd : Ext w3 (w3.drewN n4) := (Ext.refl _).drewN _
      have d1 := xd.cell d1
      have X3 := Lib.hid (X3.out.trans xd)
      have T1 := Lib.hid (T1.out.ext xd)
      have T2 := Lib.hid (T2.out.ext xd)
      clear xd
      generalize w3.drewN n4 = w4 at *
      go_wp2_with fail
      refine (C5.out _).mono ?_
      rintro e w5 ⟨rfl, n5, rfl⟩
      have xd : Ext w4 (w4.drewN n5) := (Ext.refl _).drewN _
      have X3 := Lib.hid (X3.out.trans xd)
      have T1 := Lib.hid (T1.out.ext xd)
      have T2 := Lib.hid (T2.out.ext xd)
      clear xd
      generalize w4.drewN n5 = w5 at *
      go_wp2_with fail
      refine (C6.out _).mono ?_
      rintro e w6 ⟨rfl, rfl⟩
      go_wp2_with fail
      refine (C7.out _).mono ?_
      rintro e w6 ⟨rfl, rfl⟩
      go_wp2_with fail
      refine (C8.out _).mono ?_
      rintro e w6 ⟨rfl, x6⟩
      have X6 := Lib.hid (X3.out.trans x6)
      have T1 := Lib.hid (T1.out.ext x6)
      have T2 := Lib.hid (T2.out.ext x6)
      clear x6
      go_wp2_with fail
      refine (C9.out _).mono ?_
      rintro e w7 ⟨rfl, x7⟩
      have X7 := Lib.hid (X6.out.trans x7)
      have T1 := T1.out.ext x7
      have T2 := T2.out.ext x7
      obtain ⟨u, v, k0, k1, f0, f1⟩ := T1.facts
      obtain ⟨u', v', k0', k1', f0', f1'⟩ := T2.facts
      have TT := Lib.hid (And.intro T1 T2)
      clear x7 T1 T2
      go_wp2_with fail
      obtain ⟨hc0, hc1, hc2, hc3, XX⟩ := two_results TT.out.1 TT.out.2 (.string sl) (.string sl2) (.string sr) (.string sr2) X7.out (by omega)
      change bodyPost _ _ _ _ _ (N.set2 (N.set2 w7 (w.heap.size + 1) (.string sl) (.string sl2)) (w.heap.size + 1 + 1) (.string sr) (.string sr2))
      generalize N.set2 (N.set2 w7 (w.heap.size + 1) (.string sl) (.string sl2)) (w.heap.size + 1 + 1) (.string sr) (.string sr2) = W3 at *
      exact bodyPost_ret (v := .tuple #[.agg #[.string sl, .string sl2], .agg #[.string sr, .string sr2], .bool true]) (by simp [results, Try.results24, go_sem, hc0, hc1, hc2, hc3]) rfl ⟨rfl, XX⟩
    · have e1 : splitT (.node l r, .node l2 r2) = none := if_neg hll
      have q1 : ((l.carets : Int) != (l2.carets : Int)) = true := by rw [bne_iff_ne]; omega
      rw [e1]
      clear hs hle hbo hc hB dp1 dp2 hll e1 C8 C9
      show Calls _ _ _ _ (fun e w' => e = .returned (ppb ⟨#[]⟩ ⟨#[]⟩ ⟨#[]⟩ ⟨#[]⟩ false) ∧ Ext w w')
      unfold ppb
      generalize tx (.node l r) = z at *
      generalize tx (.node l2 r2) = y at *
      generalize tx l = sl at *
      generalize tx r = sr at *
      generalize tx l2 = sl2 at *
      generalize tx r2 = sr2 at *
      go_enter Try.func24, Try.ntmps24
      go_wp2_with fail
      generalize ((w.alloc (.cells #[.string a, .string b] 29)).alloc (.cells #[.string ⟨#[]⟩, .string ⟨#[]⟩] 29)).alloc (.cells #[.string ⟨#[]⟩, .string ⟨#[]⟩] 29) = W at *
      refine (C1.out _).mono ?_
      rintro e w1 ⟨rfl, x1⟩
      obtain ⟨c0, c1⟩ := cells_of (x1.at B0.out)
      have X1 := Lib.hid (X2.out.trans x1)
      have T1 := Lib.hid (t1.ext x1)
      have T2 := Lib.hid (t2.ext x1)
      have T0 := Lib.hid (t0.ext x1)
      clear x1 t0 t1 t2
      go_wp2_with fail
      refine (C2.out _).mono ?_
      rintro e w2 ⟨rfl, x2⟩
      have X2' := X1.out.trans x2
      have T0' := T0.out.ext x2
      obtain ⟨u, v, k0, k1, f0, f1⟩ := T0'.facts
      obtain ⟨d0, d1⟩ := cells_of (set2_heap T0' (.string z) (.string y))
      have T1 := Lib.hid ((T1.out.ext x2).far (g := w.heap.size) (by omega) (.string z) (.string y))
      have T2 := Lib.hid ((T2.out.ext x2).far (g := w.heap.size) (by omega) (.string z) (.string y))
      have X3 := Lib.hid (X2'.set2 (g := w.heap.size) (Nat.le_refl _) (.string z) (.string y))
      clear x2 c0 c1 X2' T0 T0'
      go_wp2_with fail
      change Calls _ _ _ (N.set2 w2 w.heap.size (.string z) (.string y)) _
      generalize N.set2 w2 w.heap.size (.string z) (.string y) = w3 at *
      refine (C3.out _).mono ?_
      rintro e w4 ⟨rfl, rfl⟩
      go_wp2_with fail
      refine (C4.out _).mono ?_
      rintro e w4 ⟨rfl, n4, rfl⟩
      have xd : Ext w3 (w3.drewN n4) := (Ext.refl _).drewN _
      have d1 := xd.cell d1
      have X3 := Lib.hid (X3.out.trans xd)
      have T1 := Lib.hid (T1.out.ext xd)
      have T2 := Lib.hid (T2.out.ext xd)
      clear xd
      generalize w3.drewN n4 = w4 at *
      go_wp2_with fail
      refine (C5.out _).mono ?_
      rintro e w5 ⟨rfl, n5, rfl⟩
      have xd : Ext w4 (w4.drewN n5) := (Ext.refl _).drewN _
      have X3 := Lib.hid (X3.out.trans xd)
      have T1 := Lib.hid (T1.out.ext xd)
      have T2 := Lib.hid (T2.out.ext xd)
      clear xd
      generalize w4.drewN n5 = w5 at *
      go_wp2_with fail
      refine (C6.out _).mono ?_
      rintro e w6 ⟨rfl, rfl⟩
      go_wp2_with fail
      refine (C7.out _).mono ?_
      rintro e w7 ⟨rfl, rfl⟩
      have T1 := T1.out
      have T2 := T2.out
      obtain ⟨u, v, k0, k1, f0, f1⟩ := T1.facts
      obtain ⟨u', v', k0', k1', f0', f1'⟩ := T2.facts
      have TT := Lib.hid (And.intro T1 T2)
      clear T1 T2
      go_wp2_with fail
      obtain ⟨hc0, hc1, hc2, hc3, XX⟩ := two_results TT.out.1 TT.out.2 (.string ⟨#[]⟩) (.string ⟨#[]⟩) (.string ⟨#[]⟩) (.string ⟨#[]⟩) X3.out (by omega)
      change bodyPost _ _ _ _ _ (N.set2 (N.set2 w5 (w.heap.size + 1) (.string ⟨#[]⟩) (.string ⟨#[]⟩)) (w.heap.size + 1 + 1) (.string ⟨#[]⟩) (.string ⟨#[]⟩))
      generalize N.set2 (N.set2 w5 (w.heap.size + 1) (.string ⟨#[]⟩) (.string ⟨#[]⟩)) (w.heap.size + 1 + 1) (.string ⟨#[]⟩) (.string ⟨#[]⟩) = W3 at *
      exact bodyPost_ret (v := .tuple #[.agg #[.string ⟨#[]⟩, .string ⟨#[]⟩], .agg #[.string ⟨#[]⟩, .string ⟨#[]⟩], .bool false]) (by simp [results, Try.results24, go_sem, hc0, hc1, hc2, hc3]) rfl ⟨rfl, XX⟩
end Go.Proofs.Ytfkjjmmoipcddaa.N
