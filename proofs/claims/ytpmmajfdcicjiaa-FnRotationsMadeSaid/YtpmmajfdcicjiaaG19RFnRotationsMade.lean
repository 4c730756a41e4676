import Derived.Test.YtpmmajfdcicjiaaG1RFnRotationsMade
import Derived.Test.YtpmmajfdcicjiaaG2RFnRotationsMade
import Derived.Test.YtpmmajfdcicjiaaProg
import Derived.Test.YtpmmajfdcicjiaaG5RFnRotationsMade
import Derived.Test.YtpmmajfdcicjiaaG3RFnRotationsMade
import Derived.Test.YtpmmajfdcicjiaaG12RFnRotationsMade
import Derived.Test.YtpmmajfdcicjiaaG13RFnRotationsMade
import Derived.Test.YtpmmajfdcicjiaaG16RFnRotationsMade
import Derived.Test.YtpmmajfdcicjiaaG14RFnRotationsMade
import Derived.Test.YtpmmajfdcicjiaaG17RFnRotationsMade
import Derived.Test.YtpmmajfdcicjiaaG18RFnRotationsMade
import Derived.Deep.LoopGhost
import Derived.Test.YtpmmajfdcicjiaaG7RFnRotationsMade
import Derived.Deep.QuietTactic
import Derived.BigQuiet
/- The law of NeighboursOf. -/
namespace Go.Proofs.Ytpmmajfdcicjiaa.N
open Go.RowKit
set_option linter.unusedVariables false
set_option linter.unusedSimpArgs false

theorem specNear_yes (T : Tr) (hT : T.carets ≤ 8) (w : World) :
    Calls Try.prog 39 #[.string (tx T)] w (GivesLS w (nearS T) true) := by
  have C1 := Lib.hid (trIs_yes T hT w)
  have C2 := Lib.hid (brNear_calls T (by omega) w)
  clear hT
  go_enter Try.func39, Try.ntmps39
  go_wp2_with fail
  refine (C1.out).mono ?_
  rintro e w1 ⟨rfl, rfl⟩
  go_wp2_with fail
  refine (C2.out).mono ?_
  rintro e w1 ⟨v, rfl, o, x⟩
  go_wp2_with fail
  go_ret2
  exact ⟨v, rfl, o, x⟩
theorem specNear_no (s : ByteArray) (hT : ¬ ∃ T, s = tx T ∧ T.carets ≤ 8) (w : World) :
    Calls Try.prog 39 #[.string s] w (GivesLS w [] false) := by
  have C1 := Lib.hid (trIs_no s hT w)
  clear hT
  go_enter Try.func39, Try.ntmps39
  go_wp2_with fail
  refine (C1.out).mono ?_
  rintro e w1 ⟨rfl, rfl⟩
  go_wp2_with fail
  go_ret2
  exact ⟨_, rfl, Own.nil _ _ _, Ext.refl _⟩
theorem implNear_yes (T : Tr) (hT : T.carets ≤ 8) (w : World) :
    Calls Try.prog 38 #[.string (tx T)] w (GivesLS w (nearS T) true) := by
  have C1 := Lib.hid (parse_yes T w hT)
  have C2 := fun p w h => neighbours_calls T (by omega) p w h
  have CL : Hid (T.carets < 1000000) := by show _ < _; omega
  have NL : Hid ((nearS T).length < 1000000) := by show _ < _; unfold nearS; rw [srt_length, List.length_map]; have := near0_length T; omega
  clear hT
  go_enter Try.func38, Try.ntmps38
  go_wp2_with fail
  refine C1.out.mono ?_
  rintro e w1 ⟨p, rfl, hp, hx⟩
  have H := Lib.hid (And.intro hp hx)
  clear hp hx
  go_wp2_with fail
  refine (C2 _ _ H.out.1).mono ?_
  rintro e w2 ⟨v, Us, ps, rfl, o, r, hu, hc, x⟩
  have H2 := Lib.hid (And.intro o (And.intro r (And.intro hu (And.intro hc x))))
  clear o r x hu hc
  go_wp2_with fail
  refine (textsOf_calls Us ps v _ (by have := NL.out; rw [← H2.out.2.2.1, List.length_map] at this; exact this) (fun U hU => by rw [H2.out.2.2.2.1 U hU]; exact CL.out) H2.out.1.reads H2.out.2.1).mono ?_
  rintro e w1 ⟨v3, rfl, o3, x3⟩
  go_wp2_with fail
  go_ret2
  have x := H.out.2.trans H2.out.2.2.2.2
  exact ⟨v3, rfl, by rw [← H2.out.2.2.1]; exact o3.mono x.size, x.trans x3⟩
theorem implNear_no (s : ByteArray) (hT : ¬ ∃ T, s = tx T ∧ T.carets ≤ 8) (w : World) :
    Calls Try.prog 38 #[.string s] w (GivesLS w [] false) := by
  have C1 := Lib.hid (parse_no s w hT)
  clear hT
  go_enter Try.func38, Try.ntmps38
  go_wp2_with fail
  refine (C1.out).mono ?_
  rintro e w1 ⟨rfl, x⟩
  go_wp2_with fail
  go_ret2
  exact ⟨_, rfl, Own.nil _ _ _, x⟩

end Go.Proofs.Ytpmmajfdcicjiaa.N
/- Pairs at the laws' edge: their size, their copies, their likeness. -/
namespace Go.Proofs.Ytpmmajfdcicjiaa.N
open Go.RowKit
set_option linter.unusedVariables false
set_option linter.unusedSimpArgs false

end Go.Proofs.Ytpmmajfdcicjiaa.N
