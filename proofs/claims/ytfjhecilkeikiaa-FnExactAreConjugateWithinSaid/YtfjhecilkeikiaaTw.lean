import Derived.Test.YtfjhecilkeikiaaBa
import Derived.Test.YtfjhecilkeikiaaPu
import Derived.Test.YtfjhecilkeikiaaSl
import Derived.Test.YtfjhecilkeikiaaProg
import Derived.Test.YtfjhecilkeikiaaTn
import Derived.Test.YtfjhecilkeikiaaTs
import Derived.Test.YtfjhecilkeikiaaPp
import Derived.Test.YtfjhecilkeikiaaWl
import Derived.Test.YtfjhecilkeikiaaTp
import Derived.Test.YtfjhecilkeikiaaTq
import Derived.Test.YtfjhecilkeikiaaTr
import Derived.Test.YtfjhecilkeikiaaTu
import Derived.Test.YtfjhecilkeikiaaTv
import Derived.Deep.LoopGhost
import Derived.StillTailTactics
/- The pairs of halves. -/
namespace Go.Proofs.Ytfjhecilkeikiaa.N
open Go.RowKit
set_option linter.unusedVariables false
set_option linter.unusedSimpArgs false

theorem boxSS_facts (w : World) (s t s2 t2 : ByteArray) (x y : Value) (ty : TypeId) :
    Ext w (((w.alloc (.cells #[.string s, .string t] 28)).alloc (.cells #[.string s2, .string t2] 28)).alloc (.cells #[x, y] ty)) ∧
    Two (((w.alloc (.cells #[.string s, .string t] 28)).alloc (.cells #[.string s2, .string t2] 28)).alloc (.cells #[x, y] ty)) (w.heap.size + 1 + 1) ty :=
  ⟨(((Ext.refl w).alloc _).alloc _).alloc _, Two.new _ _ _ _ (by simp)⟩
