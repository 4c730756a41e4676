import Derived.Test.YtpmmajfdcicjiaaBa
import Derived.Test.YtpmmajfdcicjiaaPu
import Derived.Test.YtpmmajfdcicjiaaSl
import Derived.Test.YtpmmajfdcicjiaaProg
import Derived.Test.YtpmmajfdcicjiaaTn
import Derived.Test.YtpmmajfdcicjiaaTs
import Derived.Test.YtpmmajfdcicjiaaPp
import Derived.Test.YtpmmajfdcicjiaaPx
import Derived.Test.YtpmmajfdcicjiaaWl
import Derived.Test.YtpmmajfdcicjiaaTp
import Derived.Test.YtpmmajfdcicjiaaTq
import Derived.Test.YtpmmajfdcicjiaaTr
import Derived.Test.YtpmmajfdcicjiaaTu
import Derived.Test.YtpmmajfdcicjiaaTv
import Derived.Test.YtpmmajfdcicjiaaTw
import Derived.Test.YtpmmajfdcicjiaaSx
import Derived.Test.YtpmmajfdcicjiaaSy
import Derived.Test.YtpmmajfdcicjiaaSz
import Derived.Deep.LoopGhost
import Derived.StillTailTactics
import Derived.Deep.QuietTactic
import Derived.BigQuiet
/- Pairs of halves, as the reference has them. -/
namespace Go.Proofs.Ytpmmajfdcicjiaa.N
open Go.RowKit
set_option linter.unusedVariables false
set_option linter.unusedSimpArgs false

theorem six_cells {w0 W : World} {a b g : Nat} {u0 u1 v0 v1 : Value} (x y : Value) (h0 : W.cell? ⟨a, 0, none⟩ = some u0) (h1 : W.cell? ⟨a, 1, none⟩ = some u1) (g0 : W.cell? ⟨b, 0, none⟩ = some v0) (g1 : W.cell? ⟨b, 1, none⟩ = some v1) (ha : a ≠ g) (hb : b ≠ g) (hx : Ext w0 W) (hg : w0.heap.size ≤ g) :
    (set2 W g x y).cell? ⟨a, 0, none⟩ = some u0 ∧ (set2 W g x y).cell? ⟨a, 1, none⟩ = some u1 ∧ (set2 W g x y).cell? ⟨b, 0, none⟩ = some v0 ∧ (set2 W g x y).cell? ⟨b, 1, none⟩ = some v1 ∧ Ext w0 (set2 W g x y) :=
  ⟨set2_far ha _ _ h0, set2_far ha _ _ h1, set2_far hb _ _ g0, set2_far hb _ _ g1, hx.set2 hg _ _⟩
