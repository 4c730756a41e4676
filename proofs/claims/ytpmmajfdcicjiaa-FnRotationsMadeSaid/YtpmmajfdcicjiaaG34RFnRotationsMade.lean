import Derived.Test.YtpmmajfdcicjiaaG1RFnRotationsMade
import Derived.Test.YtpmmajfdcicjiaaG2RFnRotationsMade
import Derived.Test.YtpmmajfdcicjiaaProg
import Derived.Test.YtpmmajfdcicjiaaG11RFnRotationsMade
import Derived.Test.YtpmmajfdcicjiaaG33RFnRotationsMade
import Derived.OwnWalk
/- FnRotationsMade: the law. -/
namespace Go.Proofs.Ytpmmajfdcicjiaa.N
open Go.RowKit
set_option linter.unusedVariables false
set_option linter.unusedSimpArgs false

set_option maxHeartbeats 3200000 in
set_option maxRecDepth 100000 in
theorem walk_FnRotationsMade (n : Nat) (hn : n ≤ maxLen) (v : Value) (m : Nat) (hm : m ≤ maxLen) (u : Value) (w : World) (hv : BytesA w v n) (hu : BytesA w u m) :
    Calls Try.prog 5 #[v, u] w fun e w' => e = .returned (.bool true) ∧ Ext w w' := by
  cases hb : bigB n m with
  | false => exact walk_rotations n m v u w (hv.small (bigB_no hb).1) (hu.small (bigB_no hb).2) hb
  | true =>
    have CB := Lib.hid (fun A B c d W => big_calls n m (by unfold maxLen at hm; omega) A B c d W)
    rw [hb] at CB
    obtain ⟨A, c, rfl, _⟩ := hv
    obtain ⟨B, d, rfl, _⟩ := hu
    clear hb hn hm
    go_enter Try.func5, Try.ntmps5
    go_wp2_with fail
    refine (CB.out _ _ _ _ _).mono ?_
    rintro e w0 ⟨rfl, rfl⟩
    go_wp2_with fail
    go_ret
    exact ⟨rfl, Ext.refl _⟩
end Go.Proofs.Ytpmmajfdcicjiaa.N
