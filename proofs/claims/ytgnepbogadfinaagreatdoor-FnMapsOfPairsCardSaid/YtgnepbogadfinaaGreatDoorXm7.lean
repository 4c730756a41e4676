import Derived.Deep.LoopGhost
import Derived.Test.YtgnepbogadfinaaGreatDoorXm5
/- A part of the proof: lemmas that later parts use. -/
set_option linter.unusedVariables false
set_option linter.unusedSimpArgs false
namespace Go.Proofs.YtgnepbogadfinaaGreatDoor.N
open Go.RowKit
theorem dots_snoc (l : List UInt8) (c : UInt8) : dots (l ++ [c]) = dots l + if c = 46 then 1 else 0 := by
  simp [dots, List.countP_append, List.countP_cons]
theorem dots_le (l : List UInt8) : dots l ≤ l.length := List.countP_le_length
end Go.Proofs.YtgnepbogadfinaaGreatDoor.N
