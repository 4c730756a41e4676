import Derived.Test.YtgnepbogadfinaaDoorXf10
import Derived.Test.YtgnepbogadfinaaDoorXf12
/- A part of the proof: lemmas that later parts use. -/
set_option linter.unusedVariables false
set_option linter.unusedSimpArgs false
namespace Go.Proofs.YtgnepbogadfinaaDoor.N
open Go.RowKit
def FrV : Option (Nat × Nat) → Value
  | none => .tuple #[.agg #[.int .i64 0, .int .i64 0], .bool false]
  | some x => .tuple #[.agg #[.int .i64 x.1, .int .i64 x.2], .bool true]
set_option maxHeartbeats 3200000 in
set_option maxRecDepth 100000 in
theorem toldAt_calls (p : Nat) (hp : p ≤ 1099511627776) (w : World) :
    Calls Tryd.prog 53 #[.int .i64 p] w fun e w' => e = .returned (FrV (frF p)) ∧ Ext w w' := by
  have X0 := Lib.hid ((Ext.refl w).alloc (.cells #[.int .i64 0, .int .i64 0] 31))
  have T0 := Lib.hid (Two.new w (.int .i64 0) (.int .i64 0) 31 rfl)
  have C1 := Lib.hid (fun W => fractionAt_calls p hp W)
  unfold frF
  generalize halve 40 p 1099511627776 = x at *
  obtain ⟨q, d⟩ := x
  simp only at C1 ⊢
  clear hp
  by_cases hd : d ≤ 1024
  · rw [decide_eq_true hd] at C1
    rw [if_pos hd]
    clear hd
    show Calls _ _ _ _ (fun e w' => e = .returned (.tuple #[.agg #[.int .i64 q, .int .i64 d], .bool true]) ∧ Ext w w')
    go_enter Tryd.func53, Tryd.ntmps53
    go_wp2_with fail
    generalize w.alloc (.cells #[.int .i64 0, .int .i64 0] 31) = W at *
    refine (C1.out _).mono ?_
    rintro e w1 ⟨rfl, x1⟩
    have xa := (Ext.refl w1).alloc (.cells #[.int .i64 q, .int .i64 d] 31)
    have X1 := Lib.hid (X0.out.trans (x1.trans xa))
    have T1 := Lib.hid (T0.out.ext (x1.trans xa))
    obtain ⟨u, v, k0, k1, f0, f1⟩ := T1.out.facts
    obtain ⟨d0, d1⟩ := cells_of (heap_alloc_new w1 (.cells #[.int .i64 q, .int .i64 d] 31))
    clear x1 xa
    go_wp2_with fail
    have HH := set2_heap T1.out (.int .i64 q) (.int .i64 d)
    have XX := X1.out.set2 (g := w.heap.size) (Nat.le_refl _) (.int .i64 q) (.int .i64 d)
    change bodyPost _ _ _ _ _ (N.set2 _ w.heap.size (.int .i64 q) (.int .i64 d))
    obtain ⟨hc0, hc1⟩ := cells_of HH
    generalize N.set2 _ w.heap.size (.int .i64 q) (.int .i64 d) = W3 at *
    exact bodyPost_ret (v := .tuple #[.agg #[.int .i64 q, .int .i64 d], .bool true]) (by simp [results, Tryd.results53, go_sem, hc0, hc1]) rfl ⟨rfl, XX⟩
  · rw [decide_eq_false hd] at C1
    rw [if_neg hd]
    clear hd
    show Calls _ _ _ _ (fun e w' => e = .returned (.tuple #[.agg #[.int .i64 0, .int .i64 0], .bool false]) ∧ Ext w w')
    go_enter Tryd.func53, Tryd.ntmps53
    go_wp2_with fail
    generalize w.alloc (.cells #[.int .i64 0, .int .i64 0] 31) = W at *
    refine (C1.out _).mono ?_
    rintro e w1 ⟨rfl, x1⟩
    have xa := (Ext.refl w1).alloc (.cells #[.int .i64 q, .int .i64 d] 31)
    have X1 := Lib.hid (X0.out.trans (x1.trans xa))
    have T1 := Lib.hid (T0.out.ext (x1.trans xa))
    obtain ⟨u, v, k0, k1, f0, f1⟩ := T1.out.facts
    clear x1 xa
    go_wp2_with fail
    have HH := set2_heap T1.out (.int .i64 0) (.int .i64 0)
    have XX := X1.out.set2 (g := w.heap.size) (Nat.le_refl _) (.int .i64 0) (.int .i64 0)
    change bodyPost _ _ _ _ _ (N.set2 _ w.heap.size (.int .i64 0) (.int .i64 0))
    obtain ⟨hc0, hc1⟩ := cells_of HH
    generalize N.set2 _ w.heap.size (.int .i64 0) (.int .i64 0) = W3 at *
    exact bodyPost_ret (v := .tuple #[.agg #[.int .i64 0, .int .i64 0], .bool false]) (by simp [results, Tryd.results53, go_sem, hc0, hc1]) rfl ⟨rfl, XX⟩
end Go.Proofs.YtgnepbogadfinaaDoor.N
