import Derived.Test.YtgnepbogadfinaaGreatDoorXm10
import Derived.Test.YtgnepbogadfinaaGreatDoorXm20
/- A part of the proof: lemmas that later parts use. -/
set_option linter.unusedVariables false
set_option linter.unusedSimpArgs false
namespace Go.Proofs.YtgnepbogadfinaaGreatDoor.N
open Go.RowKit Go.Proofs.YtgnepbogadfinaaGreatDoorW.PrintWords
theorem kdR_of_ownS {w : World} {base : Nat} {v : Value} {xs : List ByteArray} (h : Own w base 9 v (strs xs)) : Kd.R Kd.string 9 w base (fun _ => True) v xs := by
  unfold Own at h
  rw [strs_length] at h
  exact Kd.R_of_own (enc := Value.string) h (fun _ _ => trivial)
end Go.Proofs.YtgnepbogadfinaaGreatDoor.N
