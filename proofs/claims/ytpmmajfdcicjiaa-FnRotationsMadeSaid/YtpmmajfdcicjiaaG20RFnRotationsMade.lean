import Derived.Test.YtpmmajfdcicjiaaG1RFnRotationsMade
import Derived.Test.YtpmmajfdcicjiaaG2RFnRotationsMade
import Derived.Test.YtpmmajfdcicjiaaProg
import Derived.Test.YtpmmajfdcicjiaaG5RFnRotationsMade
import Derived.Test.YtpmmajfdcicjiaaG3RFnRotationsMade
import Derived.Test.YtpmmajfdcicjiaaG6RFnRotationsMade
import Derived.Test.YtpmmajfdcicjiaaG7RFnRotationsMade
import Derived.Test.YtpmmajfdcicjiaaG13RFnRotationsMade
import Derived.Deep.LoopGhost
import Derived.StillTailTactics
import Derived.Test.YtpmmajfdcicjiaaG4RFnRotationsMade
import Derived.Test.YtpmmajfdcicjiaaG8RFnRotationsMade
import Derived.Deep.QuietTactic
import Derived.BigQuiet
/- The pairs of halves. -/
namespace Go.Proofs.Ytpmmajfdcicjiaa.N
open Go.RowKit
set_option linter.unusedVariables false
set_option linter.unusedSimpArgs false

theorem boxSS_facts (w : World) (s t s2 t2 : ByteArray) (x y : Value) (ty : TypeId) :
    Ext w (((w.alloc (.cells #[.string s, .string t] 25)).alloc (.cells #[.string s2, .string t2] 25)).alloc (.cells #[x, y] ty)) ∧
    Two (((w.alloc (.cells #[.string s, .string t] 25)).alloc (.cells #[.string s2, .string t2] 25)).alloc (.cells #[x, y] ty)) (w.heap.size + 1 + 1) ty :=
  ⟨(((Ext.refl w).alloc _).alloc _).alloc _, Two.new _ _ _ _ (by simp)⟩
end Go.Proofs.Ytpmmajfdcicjiaa.N
/- Pairs of halves, as the reference has them. -/
namespace Go.Proofs.Ytpmmajfdcicjiaa.N
open Go.RowKit
set_option linter.unusedVariables false
set_option linter.unusedSimpArgs false

theorem six_cells {w0 W : World} {a b g : Nat} {u0 u1 v0 v1 : Value} (x y : Value) (h0 : W.cell? ⟨a, 0, none⟩ = some u0) (h1 : W.cell? ⟨a, 1, none⟩ = some u1) (g0 : W.cell? ⟨b, 0, none⟩ = some v0) (g1 : W.cell? ⟨b, 1, none⟩ = some v1) (ha : a ≠ g) (hb : b ≠ g) (hx : Ext w0 W) (hg : w0.heap.size ≤ g) :
    (set2 W g x y).cell? ⟨a, 0, none⟩ = some u0 ∧ (set2 W g x y).cell? ⟨a, 1, none⟩ = some u1 ∧ (set2 W g x y).cell? ⟨b, 0, none⟩ = some v0 ∧ (set2 W g x y).cell? ⟨b, 1, none⟩ = some v1 ∧ Ext w0 (set2 W g x y) :=
  ⟨set2_far ha _ _ h0, set2_far ha _ _ h1, set2_far hb _ _ g0, set2_far hb _ _ g1, hx.set2 hg _ _⟩
end Go.Proofs.Ytpmmajfdcicjiaa.N
