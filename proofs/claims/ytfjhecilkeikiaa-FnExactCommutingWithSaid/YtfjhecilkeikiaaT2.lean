import Derived.Test.YtfjhecilkeikiaaBa
import Derived.Test.YtfjhecilkeikiaaPu
import Derived.Test.YtfjhecilkeikiaaSl
import Derived.Test.YtfjhecilkeikiaaProg
import Derived.Test.YtfjhecilkeikiaaTn
import Derived.Test.YtfjhecilkeikiaaTs
/- Trees turned at an address. -/
namespace Go.Proofs.Ytfjhecilkeikiaa.N
open Go.RowKit
set_option linter.unusedVariables false
set_option linter.unusedSimpArgs false

/-- What a turn of the program gives. -/
def ImplO (w : World) (o : Option Tr) (e : Ending) (w' : World) : Prop :=
  Ext w w' ∧ match o with
  | some T' => ∃ p, e = .returned (.tuple #[.pointer p, .bool true]) ∧ Rep w' T' p
  | none => ∃ p, e = .returned (.tuple #[.pointer p, .bool false])

