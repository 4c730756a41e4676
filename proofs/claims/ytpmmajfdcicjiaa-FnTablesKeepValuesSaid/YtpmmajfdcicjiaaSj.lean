import Derived.Test.YtpmmajfdcicjiaaBa
import Derived.Test.YtpmmajfdcicjiaaPu
import Derived.Test.YtpmmajfdcicjiaaSl
import Derived.Test.YtpmmajfdcicjiaaProg
import Derived.Test.YtpmmajfdcicjiaaTs
import Derived.Test.YtpmmajfdcicjiaaPp
import Derived.Test.YtpmmajfdcicjiaaPx
import Derived.Test.YtpmmajfdcicjiaaPg
import Derived.Test.YtpmmajfdcicjiaaPb
import Derived.Test.YtpmmajfdcicjiaaPh
import Derived.Test.YtpmmajfdcicjiaaWl
import Derived.Test.YtpmmajfdcicjiaaTp
import Derived.Test.YtpmmajfdcicjiaaT3
import Derived.Test.YtpmmajfdcicjiaaTk
import Derived.Test.YtpmmajfdcicjiaaTu
import Derived.Test.YtpmmajfdcicjiaaTr
import Derived.Test.YtpmmajfdcicjiaaSx
import Derived.Test.YtpmmajfdcicjiaaSy
import Derived.Test.YtpmmajfdcicjiaaSz
import Derived.Test.YtpmmajfdcicjiaaSb
import Derived.Deep.LoopGhost
import Derived.Deep.RegionHeld3
import Derived.Deep.QuietTactic
import Derived.StillTailTactics
/- Products of texts, as the reference has them. -/
namespace Go.Proofs.Ytpmmajfdcicjiaa.N
open Go.RowKit
set_option linter.unusedVariables false
set_option linter.unusedSimpArgs false

