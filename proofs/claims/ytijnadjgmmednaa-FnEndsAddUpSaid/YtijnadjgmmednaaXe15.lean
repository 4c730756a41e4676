import Derived.Shelf.SlSortCmp.Whole1
import Derived.Sort.Grow
import Derived.Sort.Row
import Derived.Test.YtijnadjgmmednaaXe6
/- A part of the proof: lemmas that later parts use. -/
set_option linter.unusedVariables false
set_option linter.unusedSimpArgs false
namespace Go.Proofs.Ytijnadjgmmednaa.N
open Go.RowKit Go.Sort Go.Shelf
abbrev NodeIn (w : World) : Type := { x : Option Addr × Tr // Rep w x.2 x.1 ∧ x.2.carets ≤ 1000 }
instance (w : World) : Inhabited (NodeIn w) := ⟨⟨(none, .leaf), rfl, by simp [Tr.carets]⟩⟩
end Go.Proofs.Ytijnadjgmmednaa.N
