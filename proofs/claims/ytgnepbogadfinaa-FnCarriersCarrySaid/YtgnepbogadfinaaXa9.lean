import Derived.StillTactics
import Derived.Test.YtgnepbogadfinaaXa6
/- A part of the proof: lemmas that later parts use. -/
set_option linter.unusedVariables false
set_option linter.unusedSimpArgs false
namespace Go.Proofs.Ytgnepbogadfinaa.N
open Go.RowKit
theorem isBetween_calls (n d : Int) (w : World) : Calls Try.prog 19 #[.agg #[.int .i64 n, .int .i64 d]] w fun e w' => e = .returned (.bool (goodB n d && decide (1 < d))) ∧ Ext w w' := by
  have X0 := Lib.hid ((Ext.refl w).alloc (.cells #[.int .i64 n, .int .i64 d] 25))
  have B0 := heap_alloc_new w (.cells #[.int .i64 n, .int .i64 d] 25)
  obtain ⟨c0, c1⟩ := cells_of B0
  have C1 := Lib.hid (fun W => isFraction_calls n d W)
  have B0 := Lib.hid B0
  generalize goodB n d = g at *
  go_enter Try.func19, Try.ntmps19
  go_wp2_with fail
  generalize w.alloc (.cells #[.int .i64 n, .int .i64 d] 25) = W at *
  refine (C1.out _).mono ?_
  rintro e w1 ⟨rfl, x1⟩
  obtain ⟨c0, c1⟩ := cells_of (x1.at B0.out)
  have X1 := Lib.hid (X0.out.trans x1)
  clear x1
  cases g with
  | false =>
    go_wp2_with fail
    go_ret
    exact ⟨rfl, X1.out⟩
  | true =>
    go_wp2_with fail
    go_ret
    exact ⟨by rw [Bool.true_and]; rfl, X1.out⟩
end Go.Proofs.Ytgnepbogadfinaa.N
