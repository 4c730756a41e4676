import Derived.Deep.CutRange
import Derived.Test.YtgnepbogadfinaaDoorXf7
/- A part of the proof: lemmas that later parts use. -/
set_option linter.unusedVariables false
set_option linter.unusedSimpArgs false
namespace Go.Proofs.YtgnepbogadfinaaDoor.N
open Go.RowKit
def pb (x y : ByteArray) (b : Bool) : Value := .tuple #[.agg #[.string x, .string y], .bool b]
end Go.Proofs.YtgnepbogadfinaaDoor.N
