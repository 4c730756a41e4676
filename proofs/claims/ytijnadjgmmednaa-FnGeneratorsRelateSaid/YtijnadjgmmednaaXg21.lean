import Derived.Test.YtijnadjgmmednaaXg10
import Derived.Test.YtijnadjgmmednaaXg12
import Derived.Test.YtijnadjgmmednaaXg13
/- A part of the proof: lemmas that later parts use. -/
set_option linter.unusedVariables false
set_option linter.unusedSimpArgs false
namespace Go.Proofs.Ytijnadjgmmednaa.N
open Go.RowKit
theorem CaretsOf_yes (T : Tr) (hT : T.carets ≤ 8) (w : World) : Calls Try.prog 41 #[.string (tx T)] w fun e w' => e = .returned (.tuple #[.int .i64 T.carets, .bool true]) ∧ Ext w w' := by
  have C1 := Lib.hid (parse_yes T w hT)
  have C2 := Lib.hid (fun p W h => carets_calls T p W (by omega) h)
  generalize tx T = s at *
  clear hT
  go_enter Try.func41, Try.ntmps41
  go_wp2_with fail
  refine (C1.out).mono ?_
  rintro e w1 ⟨p, rfl, hr, hx⟩
  have X1 := Lib.hid hx
  have C3 := Lib.hid (C2.out p w1 hr)
  clear hx hr
  go_wp2_with fail
  refine (C3.out).mono ?_
  rintro e w2 ⟨rfl, n, rfl⟩
  have X2 := Lib.hid (X1.out.drewN n)
  go_wp2_with fail
  go_ret2
  exact ⟨rfl, X2.out⟩
theorem isCarets_yes (n : Nat) (hn : n ≤ 8) (w : World) : Calls Try.prog 108 #[.int .i64 n] w fun e w' => e = .returned (.bool true) ∧ w = w' := by
  have n0 : (0 : Int) ≤ n := by omega
  have n8 : (n : Int) ≤ 8 := by omega
  go_enter Try.func108, Try.ntmps108
  go_wp2_with fail
  go_ret
  exact ⟨rfl, rfl⟩
theorem RightComb_yes (n : Nat) (hn : n ≤ 8) (w : World) : Calls Try.prog 42 #[.int .i64 n] w fun e w' => e = .returned (.tuple #[.string (tx (comb n)), .bool true]) ∧ Ext w w' := by
  have C1 := Lib.hid (rightComb_calls n (by omega) w)
  have C2 := Lib.hid (fun p W h => text_calls (comb n) p W (by rw [comb_carets]; omega) h)
  have n0 : (0 : Int) ≤ n := by omega
  have n8 : (n : Int) ≤ 8 := by omega
  generalize tx (comb n) = s at *
  have C0 := Lib.hid (isCarets_yes n hn w)
  go_enter Try.func42, Try.ntmps42
  go_wp2_with fail
  refine (C0.out).mono ?_
  rintro e w0 ⟨rfl, rfl⟩
  go_wp2_with fail
  refine (C1.out).mono ?_
  rintro e w1 ⟨p, rfl, hr, hx⟩
  have X1 := Lib.hid hx
  have C3 := Lib.hid (C2.out p w1 hr)
  clear hx hr
  go_wp2_with fail
  refine (C3.out).mono ?_
  rintro e w2 ⟨rfl, n, rfl⟩
  have X2 := Lib.hid (X1.out.drewN n)
  go_wp2_with fail
  go_ret2
  exact ⟨rfl, X2.out⟩
end Go.Proofs.Ytijnadjgmmednaa.N
