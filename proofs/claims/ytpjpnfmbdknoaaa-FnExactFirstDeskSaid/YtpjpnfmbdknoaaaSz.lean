import Derived.Test.YtpjpnfmbdknoaaaBa
import Derived.Test.YtpjpnfmbdknoaaaPu
import Derived.Test.YtpjpnfmbdknoaaaSl
import Derived.Test.YtpjpnfmbdknoaaaProg
import Derived.Test.YtpjpnfmbdknoaaaTn
import Derived.Test.YtpjpnfmbdknoaaaTs
import Derived.Test.YtpjpnfmbdknoaaaPp
import Derived.Test.YtpjpnfmbdknoaaaPx
import Derived.Test.YtpjpnfmbdknoaaaWl
import Derived.Test.YtpjpnfmbdknoaaaTp
import Derived.Test.YtpjpnfmbdknoaaaTq
import Derived.Test.YtpjpnfmbdknoaaaTr
import Derived.Test.YtpjpnfmbdknoaaaTu
import Derived.Test.YtpjpnfmbdknoaaaSx
import Derived.Test.YtpjpnfmbdknoaaaSy
import Derived.Deep.LoopGhost
import Derived.StillTailTactics
import Derived.Deep.QuietTactic
import Derived.BigQuiet
/- Pairs shifted and put side by side, as the reference has them. -/
namespace Go.Proofs.Ytpjpnfmbdknoaaa.N
open Go.RowKit
set_option linter.unusedVariables false
set_option linter.unusedSimpArgs false

set_option maxHeartbeats 3200000 in
set_option maxRecDepth 100000 in
theorem prIf_calls (A B : Tr) (hc : A.carets = B.carets) (w : World) :
    Calls Try.prog 81 #[.agg #[.string (tx A), .string (tx B)]] w fun e w' => e = .returned (ifP (A, B)) ∧ Ext w w' := by
  obtain ⟨X2, t0⟩ := boxS_facts w (tx A) (tx B) (.string ⟨#[]⟩) (.string ⟨#[]⟩) 23
  have X2 := Lib.hid X2
  have B0 : Hid (((w.alloc (.cells #[.string (tx A), .string (tx B)] 23)).alloc (.cells #[.string ⟨#[]⟩, .string ⟨#[]⟩] 23)).heap[w.heap.size]? = some (.cells #[.string (tx A), .string (tx B)] 23)) := ((Ext.refl _).alloc _).at (heap_alloc_new w _)
  by_cases hB : B.carets ≤ 8
  · have E : ifP (A, B) = .tuple #[.agg #[.string (tx A), .string (tx B)], .bool true] := if_pos (show A.carets ≤ 8 by omega)
    have C1 := Lib.hid (fun W => prGood_yes A B hc hB W)
    rw [E]
    clear hc hB E
    go_enter Try.func81, Try.ntmps81
    go_wp2_with fail
    generalize (w.alloc (.cells #[.string (tx A), .string (tx B)] 23)).alloc (.cells #[.string ⟨#[]⟩, .string ⟨#[]⟩] 23) = W at *
    refine (C1.out _).mono ?_
    rintro e w1 ⟨rfl, x1⟩
    have T1 := t0.ext x1
    obtain ⟨u, v, k0, k1, f0, f1⟩ := T1.facts
    obtain ⟨c0, c1⟩ := cells_of (x1.at B0.out)
    have T1 := Lib.hid T1
    have X1 := Lib.hid (X2.out.trans x1)
    clear t0 x1
    go_wp2_with fail
    have HH := set2_heap T1.out (.string (tx A)) (.string (tx B))
    have XX := X1.out.set2 (g := w.heap.size + 1) (by omega) (.string (tx A)) (.string (tx B))
    change bodyPost _ _ _ _ _ (N.set2 _ (w.heap.size + 1) (.string (tx A)) (.string (tx B)))
    obtain ⟨hc0, hc1⟩ := cells_of HH
    generalize N.set2 _ (w.heap.size + 1) (.string (tx A)) (.string (tx B)) = W3 at *
    exact bodyPost_ret (v := .tuple #[.agg #[.string (tx A), .string (tx B)], .bool true]) (by simp [results, Try.results81, go_sem, hc0, hc1]) rfl ⟨rfl, XX⟩
  · have E : ifP (A, B) = .tuple #[emptyP, .bool false] := if_neg (show ¬ A.carets ≤ 8 by omega)
    have NG : ¬ Good (tx A) (tx B) := by
      rintro ⟨A', B', h1, h2, _, h4⟩
      obtain rfl := tx_inj h2
      exact hB h4
    have C1 := Lib.hid (fun W => prGood_no _ _ NG W)
    rw [E]
    clear hc hB E NG
    go_enter Try.func81, Try.ntmps81
    go_wp2_with fail
    generalize (w.alloc (.cells #[.string (tx A), .string (tx B)] 23)).alloc (.cells #[.string ⟨#[]⟩, .string ⟨#[]⟩] 23) = W at *
    refine (C1.out _).mono ?_
    rintro e w1 ⟨rfl, x1⟩
    have T1 := t0.ext x1
    obtain ⟨u, v, k0, k1, f0, f1⟩ := T1.facts
    have T1 := Lib.hid T1
    have X1 := Lib.hid (X2.out.trans x1)
    clear t0 x1
    go_wp2_with fail
    have HH := set2_heap T1.out (.string ⟨#[]⟩) (.string ⟨#[]⟩)
    have XX := X1.out.set2 (g := w.heap.size + 1) (by omega) (.string ⟨#[]⟩) (.string ⟨#[]⟩)
    change bodyPost _ _ _ _ _ (N.set2 _ (w.heap.size + 1) (.string ⟨#[]⟩) (.string ⟨#[]⟩))
    obtain ⟨hc0, hc1⟩ := cells_of HH
    generalize N.set2 _ (w.heap.size + 1) (.string ⟨#[]⟩) (.string ⟨#[]⟩) = W3 at *
    exact bodyPost_ret (v := .tuple #[emptyP, .bool false]) (by simp [results, Try.results81, go_sem, hc0, hc1, emptyP]) rfl ⟨rfl, XX⟩
theorem trOf_tree (l r : Tr) (hl : l.carets < 1000000) (hr : r.carets < 1000000) (w : World) :
    Calls Try.prog 87 #[.string (tx l), .string (tx r)] w fun e w' => e = .returned (.string (tx (.node l r))) ∧ w = w' := by
  rw [tx_node]
  exact trOf_calls (tx l) (tx r) (by have := l.txt_length; show l.txt.length ≤ _; omega) (by have := r.txt_length; show r.txt.length ≤ _; omega) w

set_option maxHeartbeats 3200000 in
set_option maxRecDepth 100000 in
theorem cjShift_calls (A B : Tr) (hA : A.carets < 900) (hB : B.carets < 900) (w : World) :
    Calls Try.prog 82 #[.agg #[.string (tx A), .string (tx B)]] w fun e w' => e = .returned (.agg #[.string (tx (red (.node .leaf A, .node .leaf B)).1), .string (tx (red (.node .leaf A, .node .leaf B)).2)]) ∧ Ext w w' := by
  obtain ⟨X2, t0⟩ := boxS_facts w (tx A) (tx B) (.string ⟨#[]⟩) (.string ⟨#[]⟩) 23
  have X2 := Lib.hid X2
  have B0 : (((w.alloc (.cells #[.string (tx A), .string (tx B)] 23)).alloc (.cells #[.string ⟨#[]⟩, .string ⟨#[]⟩] 23)).heap[w.heap.size]? = some (.cells #[.string (tx A), .string (tx B)] 23)) := ((Ext.refl _).alloc _).at (heap_alloc_new w _)
  have C1 := fun W => trOf_tree .leaf A (by simp [Tr.carets]) (by omega) W
  have C2 := fun W => trOf_tree .leaf B (by simp [Tr.carets]) (by omega) W
  have C3 := fun W => prReduce_calls (.node .leaf A) (.node .leaf B) (by simp only [Tr.carets]; omega) (by simp only [Tr.carets]; omega) W
  rw [tx_leaf] at C1 C2
  clear hA hB
  generalize tx (.node .leaf A) = s1 at *
  generalize tx (.node .leaf B) = s2 at *
  generalize tx (red (.node .leaf A, .node .leaf B)).1 = r1 at *
  generalize tx (red (.node .leaf A, .node .leaf B)).2 = r2 at *
  generalize tx A = a at *
  generalize tx B = b at *
  go_enter Try.func82, Try.ntmps82
  go_wp2_with fail
  generalize (w.alloc (.cells #[.string a, .string b] 23)).alloc (.cells #[.string ⟨#[]⟩, .string ⟨#[]⟩] 23) = W at *
  obtain ⟨c0, c1⟩ := cells_of B0
  go_region_held3 (fun w' => w'.cell? ⟨w.heap.size, 0, none⟩ = some (.string a) ∧ w'.cell? ⟨w.heap.size, 1, none⟩ = some (.string b) ∧ Ext w w')
    (first | exact ⟨c0, c1, X2.out.drew⟩ | exact ⟨c0, c1, X2.out.drewN _⟩ | exact two_cells_set _ _ (x3.cell c0) (x3.cell c1) (by omega) (X2.out.trans x3) (by omega) | exact ⟨x3.cell c0, x3.cell c1, X2.out.trans x3⟩ | fail)
    (first
      | (go_at_call 86; refine (C3 _).mono ?_; rintro e w3 ⟨rfl, hx3⟩; have x3 : Ext W w3 := (Ext.refl W).drew.trans hx3; obtain ⟨u, v, k0, k1, f0, f1⟩ := (t0.ext x3).facts)
      | (go_at_call 87; with_reducible refine (C1 _).mono ?_; rintro e w1 ⟨rfl, rfl⟩)
      | (go_at_call 87; refine (C2 _).mono ?_; rintro e w1 ⟨rfl, rfl⟩)
      | fail)
  have T3 := t0.ext x3
  have HH := set2_heap T3 (.string r1) (.string r2)
  have XX := (X2.out.trans x3).set2 (g := w.heap.size + 1) (by omega) (.string r1) (.string r2)
  change Exit.then _ _ _ _ (N.set2 _ (w.heap.size + 1) (.string r1) (.string r2))
  obtain ⟨hc0, hc1⟩ := cells_of HH
  generalize N.set2 _ (w.heap.size + 1) (.string r1) (.string r2) = W3 at *
  go_wp2_with fail
  exact bodyPost_ret (v := .agg #[.string r1, .string r2]) (by simp [results, Try.results82, go_sem, hc0, hc1]) rfl ⟨rfl, XX⟩

set_option maxHeartbeats 3200000 in
set_option maxRecDepth 100000 in
theorem specShiftPair_yes (A B : Tr) (hc : A.carets = B.carets) (hB : B.carets ≤ 8) (w : World) :
    Calls Try.prog 48 #[.agg #[.string (tx A), .string (tx B)]] w fun e w' => e = .returned (ifP (red (.node .leaf A, .node .leaf B))) ∧ Ext w w' := by
  obtain ⟨X2, t0⟩ := boxS_facts w (tx A) (tx B) (.string ⟨#[]⟩) (.string ⟨#[]⟩) 23
  have X2 := Lib.hid X2
  have B0 : Hid (((w.alloc (.cells #[.string (tx A), .string (tx B)] 23)).alloc (.cells #[.string ⟨#[]⟩, .string ⟨#[]⟩] 23)).heap[w.heap.size]? = some (.cells #[.string (tx A), .string (tx B)] 23)) := ((Ext.refl _).alloc _).at (heap_alloc_new w _)
  have C1 := Lib.hid (fun W => prGood_yes A B hc hB W)
  have C2 := Lib.hid (fun W => cjShift_calls A B (by omega) (by omega) W)
  have C3 := Lib.hid (fun W => prIf_calls (red (.node .leaf A, .node .leaf B)).1 (red (.node .leaf A, .node .leaf B)).2 (red_same (by simp only [Tr.carets]; omega)) W)
  obtain ⟨s, t, b, hb⟩ := ifP_two (red (.node .leaf A, .node .leaf B))
  rw [show ((red (.node .leaf A, .node .leaf B)).1, (red (.node .leaf A, .node .leaf B)).2) = red (.node .leaf A, .node .leaf B) from rfl, hb] at C3
  rw [hb]
  clear hc hB hb
  generalize tx (red (.node .leaf A, .node .leaf B)).1 = r1 at *
  generalize tx (red (.node .leaf A, .node .leaf B)).2 = r2 at *
  generalize tx A = a at *
  generalize tx B = b' at *
  go_enter Try.func48, Try.ntmps48
  go_wp2_with fail
  generalize (w.alloc (.cells #[.string a, .string b'] 23)).alloc (.cells #[.string ⟨#[]⟩, .string ⟨#[]⟩] 23) = W at *
  refine (C1.out _).mono ?_
  rintro e w1 ⟨rfl, x1⟩
  obtain ⟨c0, c1⟩ := cells_of (x1.at B0.out)
  have X1 := Lib.hid (X2.out.trans x1)
  have T1 := Lib.hid (t0.ext x1)
  clear t0 x1
  go_wp2_with fail
  refine (C2.out _).mono ?_
  rintro e w2 ⟨rfl, x2⟩
  have X2' := Lib.hid (X1.out.trans x2)
  have T2 := Lib.hid (T1.out.ext x2)
  clear x2 c0 c1
  go_wp2_with fail
  refine (C3.out _).mono ?_
  rintro e w3 ⟨rfl, x3⟩
  have T3 := T2.out.ext x3
  have X3 := Lib.hid (X2'.out.trans x3)
  obtain ⟨u, v, k0, k1, f0, f1⟩ := T3.facts
  have T3 := Lib.hid T3
  clear x3
  go_wp2_with fail
  have HH := set2_heap T3.out (.string s) (.string t)
  have XX := X3.out.set2 (g := w.heap.size + 1) (by omega) (.string s) (.string t)
  change bodyPost _ _ _ _ _ (N.set2 _ (w.heap.size + 1) (.string s) (.string t))
  obtain ⟨hc0, hc1⟩ := cells_of HH
  generalize N.set2 _ (w.heap.size + 1) (.string s) (.string t) = W3 at *
  exact bodyPost_ret (v := .tuple #[.agg #[.string s, .string t], .bool b]) (by simp [results, Try.results48, go_sem, hc0, hc1]) rfl ⟨rfl, XX⟩
set_option maxHeartbeats 3200000 in
set_option maxRecDepth 100000 in
theorem specShiftPair_no (s t : ByteArray) (h : ¬ Good s t) (w : World) :
    Calls Try.prog 48 #[.agg #[.string s, .string t]] w fun e w' => e = .returned (.tuple #[emptyP, .bool false]) ∧ Ext w w' := by
  obtain ⟨X2, t0⟩ := boxS_facts w s t (.string ⟨#[]⟩) (.string ⟨#[]⟩) 23
  have X2 := Lib.hid X2
  have C1 := Lib.hid (fun W => prGood_no s t h W)
  clear h
  go_enter Try.func48, Try.ntmps48
  go_wp2_with fail
  generalize (w.alloc (.cells #[.string s, .string t] 23)).alloc (.cells #[.string ⟨#[]⟩, .string ⟨#[]⟩] 23) = W at *
  refine (C1.out _).mono ?_
  rintro e w1 ⟨rfl, x1⟩
  have T3 := t0.ext x1
  obtain ⟨u, v, k0, k1, f0, f1⟩ := T3.facts
  have T3 := Lib.hid T3
  have X1 := Lib.hid (X2.out.trans x1)
  clear t0 x1
  go_wp2_with fail
  have HH := set2_heap T3.out (.string ⟨#[]⟩) (.string ⟨#[]⟩)
  have XX := X1.out.set2 (g := w.heap.size + 1) (by omega) (.string ⟨#[]⟩) (.string ⟨#[]⟩)
  change bodyPost _ _ _ _ _ (N.set2 _ (w.heap.size + 1) (.string ⟨#[]⟩) (.string ⟨#[]⟩))
  obtain ⟨hc0, hc1⟩ := cells_of HH
  generalize N.set2 _ (w.heap.size + 1) (.string ⟨#[]⟩) (.string ⟨#[]⟩) = W3 at *
  exact bodyPost_ret (v := .tuple #[emptyP, .bool false]) (by simp [results, Try.results48, go_sem, hc0, hc1, emptyP]) rfl ⟨rfl, XX⟩
end Go.Proofs.Ytpjpnfmbdknoaaa.N
