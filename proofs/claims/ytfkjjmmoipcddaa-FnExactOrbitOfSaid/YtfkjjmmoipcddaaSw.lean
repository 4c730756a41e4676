import Derived.Test.YtfkjjmmoipcddaaBa
import Derived.Test.YtfkjjmmoipcddaaPu
import Derived.Test.YtfkjjmmoipcddaaSl
import Derived.Test.YtfkjjmmoipcddaaProg
import Derived.Test.YtfkjjmmoipcddaaTn
import Derived.Test.YtfkjjmmoipcddaaTs
import Derived.Test.YtfkjjmmoipcddaaPp
import Derived.Test.YtfkjjmmoipcddaaPx
import Derived.Test.YtfkjjmmoipcddaaWl
import Derived.Test.YtfkjjmmoipcddaaTp
import Derived.Test.YtfkjjmmoipcddaaTq
import Derived.Test.YtfkjjmmoipcddaaTr
import Derived.Test.YtfkjjmmoipcddaaTu
import Derived.Test.YtfkjjmmoipcddaaTv
import Derived.Test.YtfkjjmmoipcddaaTw
import Derived.Test.YtfkjjmmoipcddaaSx
import Derived.Test.YtfkjjmmoipcddaaSy
import Derived.Test.YtfkjjmmoipcddaaSz
import Derived.Deep.LoopGhost
import Derived.StillTailTactics
import Derived.Deep.QuietTactic
import Derived.BigQuiet
/- Pairs of halves, as the reference has them. -/
namespace Go.Proofs.Ytfkjjmmoipcddaa.N
open Go.RowKit
set_option linter.unusedVariables false
set_option linter.unusedSimpArgs false

theorem six_cells {w0 W : World} {a b g : Nat} {u0 u1 v0 v1 : Value} (x y : Value) (h0 : W.cell? ⟨a, 0, none⟩ = some u0) (h1 : W.cell? ⟨a, 1, none⟩ = some u1) (g0 : W.cell? ⟨b, 0, none⟩ = some v0) (g1 : W.cell? ⟨b, 1, none⟩ = some v1) (ha : a ≠ g) (hb : b ≠ g) (hx : Ext w0 W) (hg : w0.heap.size ≤ g) :
    (set2 W g x y).cell? ⟨a, 0, none⟩ = some u0 ∧ (set2 W g x y).cell? ⟨a, 1, none⟩ = some u1 ∧ (set2 W g x y).cell? ⟨b, 0, none⟩ = some v0 ∧ (set2 W g x y).cell? ⟨b, 1, none⟩ = some v1 ∧ Ext w0 (set2 W g x y) :=
  ⟨set2_far ha _ _ h0, set2_far ha _ _ h1, set2_far hb _ _ g0, set2_far hb _ _ g1, hx.set2 hg _ _⟩
