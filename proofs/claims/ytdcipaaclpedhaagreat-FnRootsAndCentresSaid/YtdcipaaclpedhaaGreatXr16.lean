import Derived.OwnWalk
import Derived.Test.YtdcipaaclpedhaaGreatXr10
import Derived.Test.YtdcipaaclpedhaaGreatXr11
/- A part of the proof: lemmas that later parts use. -/
set_option linter.unusedVariables false
set_option linter.unusedSimpArgs false
namespace Go.Proofs.YtdcipaaclpedhaaGreat.N
open Go.RowKit
theorem CaretsOf_yes (T : Tr) (hT : T.carets ≤ 8) (w : World) : Calls Tryz.prog 17 #[.string (tx T)] w fun e w' => e = .returned (.tuple #[.int .i64 T.carets, .bool true]) ∧ Ext w w' := by
  have C1 := Lib.hid (parse_yes T w hT)
  have C2 := Lib.hid (fun p W h => carets_calls T p W (by omega) h)
  generalize tx T = s at *
  clear hT
  go_enter Tryz.func17, Tryz.ntmps17
  go_wp2_with fail
  refine (C1.out).mono ?_
  rintro e w1 ⟨p, rfl, hr, hx⟩
  have X1 := Lib.hid hx
  have C3 := Lib.hid (C2.out p w1 hr)
  clear hx hr
  go_wp2_with fail
  refine (C3.out).mono ?_
  rintro e w2 ⟨rfl, n, rfl⟩
  have X2 := Lib.hid (X1.out.drewN n)
  go_wp2_with fail
  go_ret2
  exact ⟨rfl, X2.out⟩
end Go.Proofs.YtdcipaaclpedhaaGreat.N
