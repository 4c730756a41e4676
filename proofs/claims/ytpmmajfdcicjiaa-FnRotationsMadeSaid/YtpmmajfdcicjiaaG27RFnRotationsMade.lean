import Derived.Test.YtpmmajfdcicjiaaG1RFnRotationsMade
import Derived.Test.YtpmmajfdcicjiaaG2RFnRotationsMade
import Derived.Test.YtpmmajfdcicjiaaProg
import Derived.Test.YtpmmajfdcicjiaaG3RFnRotationsMade
import Derived.Test.YtpmmajfdcicjiaaG4RFnRotationsMade
import Derived.Test.YtpmmajfdcicjiaaG24RFnRotationsMade
import Derived.Test.YtpmmajfdcicjiaaG25RFnRotationsMade
import Derived.Test.YtpmmajfdcicjiaaG5RFnRotationsMade
import Derived.Test.YtpmmajfdcicjiaaG12RFnRotationsMade
import Derived.Test.YtpmmajfdcicjiaaG26RFnRotationsMade
import Derived.Test.YtpmmajfdcicjiaaG7RFnRotationsMade
import Derived.Test.YtpmmajfdcicjiaaG6RFnRotationsMade
import Derived.Test.YtpmmajfdcicjiaaG8RFnRotationsMade
import Derived.Deep.LoopGhost
import Derived.Deep.RegionHeld3
import Derived.Deep.QuietTactic
import Derived.StillTailTactics
import Derived.Test.YtpmmajfdcicjiaaG22RFnRotationsMade
import Derived.Test.YtpmmajfdcicjiaaG9RFnRotationsMade
import Derived.Test.YtpmmajfdcicjiaaG15RFnRotationsMade
/- Products of texts, as the reference has them. -/
namespace Go.Proofs.Ytpmmajfdcicjiaa.N
open Go.RowKit
set_option linter.unusedVariables false
set_option linter.unusedSimpArgs false

end Go.Proofs.Ytpmmajfdcicjiaa.N
/- Letters of words, and their pairs. -/
namespace Go.Proofs.Ytpmmajfdcicjiaa.N
open Go.RowKit
set_option linter.unusedVariables false
set_option linter.unusedSimpArgs false

/-- The pair of a letter. -/
def letP (n : Int) : Tr × Tr := if n < 0 then ((gen (n.natAbs - 1)).2, (gen (n.natAbs - 1)).1) else gen (n.natAbs - 1)
theorem letP_carets {n : Int} (hn : n ≠ 0) : (letP n).1.carets = n.natAbs + 1 ∧ (letP n).2.carets = n.natAbs + 1 := by
  have h := gen_carets (n.natAbs - 1)
  unfold letP
  split
  · simp only; omega
  · omega
def TwoL (xs : List Int) : Prop := ∀ x ∈ xs, x ≠ 0 ∧ -2 ≤ x ∧ x ≤ 2
instance (xs : List Int) : Decidable (TwoL xs) := by unfold TwoL; infer_instance
/-- All letters between bounds. -/
def LetL (m : Int) (xs : List Int) : Prop := ∀ x ∈ xs, x ≠ 0 ∧ -m - 1 ≤ x ∧ x ≤ m + 1
instance (m : Int) (xs : List Int) : Decidable (LetL m xs) := by unfold LetL; infer_instance
theorem LetL_two (xs : List Int) : LetL 1 xs ↔ TwoL xs := forall_congr' fun x => forall_congr' fun _ => by omega

end Go.Proofs.Ytpmmajfdcicjiaa.N
