import Derived.Test.YtfkjjmmoipcddaaBa
import Derived.Test.YtfkjjmmoipcddaaPu
import Derived.Test.YtfkjjmmoipcddaaSl
import Derived.Test.YtfkjjmmoipcddaaProg
import Derived.Test.YtfkjjmmoipcddaaWl
import Derived.Test.YtfkjjmmoipcddaaTp
import Derived.Test.YtfkjjmmoipcddaaTr
import Derived.Test.YtfkjjmmoipcddaaTu
import Derived.Test.YtfkjjmmoipcddaaTv
import Derived.Test.YtfkjjmmoipcddaaTw
import Derived.Test.YtfkjjmmoipcddaaSx
import Derived.Test.YtfkjjmmoipcddaaSy
import Derived.Test.YtfkjjmmoipcddaaSz
import Derived.Test.YtfkjjmmoipcddaaSw
import Derived.Test.YtfkjjmmoipcddaaWp
import Derived.Deep.CutRange
import Derived.Deep.LoopGhost
import Derived.Deep.QuietTactic
import Derived.BigQuiet
/- The laws of pairs shifted and of pairs of halves. -/
namespace Go.Proofs.Ytfkjjmmoipcddaa.N
open Go.RowKit
set_option linter.unusedVariables false
set_option linter.unusedSimpArgs false

/-- A pair and a bool. -/
def pb (x y : ByteArray) (b : Bool) : Value := .tuple #[.agg #[.string x, .string y], .bool b]
theorem ifP_pb (p : Tr × Tr) : ∃ x y b, ifP p = pb x y b := ifP_two p

