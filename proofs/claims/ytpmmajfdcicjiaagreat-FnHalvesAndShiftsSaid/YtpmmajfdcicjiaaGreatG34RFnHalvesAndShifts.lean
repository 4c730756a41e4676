import Derived.Test.YtpmmajfdcicjiaaGreatG1RFnHalvesAndShifts
import Derived.Test.YtpmmajfdcicjiaaGreatG2RFnHalvesAndShifts
import Derived.Test.YtpmmajfdcicjiaaGreatProg
import Derived.Test.YtpmmajfdcicjiaaGreatG10RFnHalvesAndShifts
import Derived.Test.YtpmmajfdcicjiaaGreatG22RFnHalvesAndShifts
import Derived.Test.YtpmmajfdcicjiaaGreatG21RFnHalvesAndShifts
import Derived.Test.YtpmmajfdcicjiaaGreatG23RFnHalvesAndShifts
import Derived.Deep.LoopGhost
import Derived.Deep.QuietTactic
import Derived.BigQuiet
import Derived.Test.YtpmmajfdcicjiaaGreatG3RFnHalvesAndShifts
import Derived.Test.YtpmmajfdcicjiaaGreatG5RFnHalvesAndShifts
/- Tables that are associative, the first three that are not: both functions and the laws. -/
namespace Go.Proofs.YtpmmajfdcicjiaaGreat.N
open Go.RowKit
set_option linter.unusedVariables false
set_option linter.unusedSimpArgs false

end Go.Proofs.YtpmmajfdcicjiaaGreat.N
/- The value of a tree: both functions and the law. -/
namespace Go.Proofs.YtpmmajfdcicjiaaGreat.N
open Go.RowKit
set_option linter.unusedVariables false
set_option linter.unusedSimpArgs false

def VTGood (T : Tr) (s : ByteArray) (xss : List (List Int)) (xs : List Int) : Prop := s = tx T ∧ T.carets ≤ 8 ∧ Tab xss ∧ xs.length = T.carets + 1 ∧ InN xss.length xs
def natsOf (xs : List Int) : List Nat := xs.map Int.toNat
theorem natsOf_eq {n : Nat} {xs : List Int} (h : InN n xs) : ints xs = nats (natsOf xs) := by
  unfold nats natsOf
  congr 1
  rw [List.map_map]
  conv => lhs; rw [← List.map_id xs]
  apply List.map_congr_left
  intro x hx
  have := (h x hx).1
  show x = ((x.toNat : Nat) : Int)
  omega
theorem natsOf_lt {n : Nat} {xs : List Int} (h : InN n xs) : ∀ y ∈ natsOf xs, y < n := by
  intro y hy
  obtain ⟨x, hx, rfl⟩ := List.mem_map.1 hy
  have := h x hx
  omega
theorem natsOf_length (xs : List Int) : (natsOf xs).length = xs.length := by simp [natsOf]
def GivesIB (w : World) (r : Int) (b : Bool) (e : Ending) (w' : World) : Prop := e = .returned (.tuple #[.int .i64 r, .bool b]) ∧ Ext w w'

end Go.Proofs.YtpmmajfdcicjiaaGreat.N
