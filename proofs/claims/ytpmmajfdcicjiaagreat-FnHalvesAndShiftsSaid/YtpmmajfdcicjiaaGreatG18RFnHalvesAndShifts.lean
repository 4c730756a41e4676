import Derived.Test.YtpmmajfdcicjiaaGreatG1RFnHalvesAndShifts
import Derived.Test.YtpmmajfdcicjiaaGreatG2RFnHalvesAndShifts
import Derived.Test.YtpmmajfdcicjiaaGreatProg
import Derived.Test.YtpmmajfdcicjiaaGreatG5RFnHalvesAndShifts
import Derived.Test.YtpmmajfdcicjiaaGreatG7RFnHalvesAndShifts
import Derived.Deep.LoopGhost
import Derived.Deep.QuietTactic
import Derived.BigQuiet
import Derived.Test.YtpmmajfdcicjiaaGreatG14RFnHalvesAndShifts
import Derived.Test.YtpmmajfdcicjiaaGreatG6RFnHalvesAndShifts
import Derived.Test.YtpmmajfdcicjiaaGreatG8RFnHalvesAndShifts
import Derived.Test.YtpmmajfdcicjiaaGreatG15RFnHalvesAndShifts
import Derived.Deep.CutRange
/- Pairs at the laws' edge: their size, their copies, their likeness. -/
namespace Go.Proofs.YtpmmajfdcicjiaaGreat.N
open Go.RowKit
set_option linter.unusedVariables false
set_option linter.unusedSimpArgs false

end Go.Proofs.YtpmmajfdcicjiaaGreat.N
/- The laws of pairs shifted and of pairs of halves. -/
namespace Go.Proofs.YtpmmajfdcicjiaaGreat.N
open Go.RowKit
set_option linter.unusedVariables false
set_option linter.unusedSimpArgs false

/-- A pair and a bool. -/
def pb (x y : ByteArray) (b : Bool) : Value := .tuple #[.agg #[.string x, .string y], .bool b]
theorem ifP_pb (p : Tr × Tr) : ∃ x y b, ifP p = pb x y b := ifP_two p

theorem both_ShiftPair (s t : ByteArray) : ∃ x y b, (∀ w, Calls Tryz.prog 18 #[.agg #[.string s, .string t]] w fun e w' => e = .returned (pb x y b) ∧ Ext w w') ∧ ∀ w, Calls Tryz.prog 17 #[.agg #[.string s, .string t]] w fun e w' => e = .returned (pb x y b) ∧ Ext w w' := by
  by_cases h : Good s t
  · obtain ⟨A, B, rfl, rfl, h1, h2⟩ := h
    obtain ⟨x, y, b, hb⟩ := ifP_pb (red (.node .leaf A, .node .leaf B))
    refine ⟨x, y, b, ?_⟩
    rw [← hb]
    exact ⟨specShiftPair_yes A B h1 h2, ShiftPair_yes A B h1 h2⟩
  · exact ⟨⟨#[]⟩, ⟨#[]⟩, false, specShiftPair_no s t h, ShiftPair_no s t h⟩
theorem both_HalvesPair (s1 t1 s2 t2 : ByteArray) : ∃ x y b, (∀ w, Calls Tryz.prog 8 #[.agg #[.string s1, .string t1], .agg #[.string s2, .string t2]] w fun e w' => e = .returned (pb x y b) ∧ Ext w w') ∧ ∀ w, Calls Tryz.prog 7 #[.agg #[.string s1, .string t1], .agg #[.string s2, .string t2]] w fun e w' => e = .returned (pb x y b) ∧ Ext w w' := by
  by_cases h : Good s1 t1 ∧ Good s2 t2
  · obtain ⟨⟨A, B, rfl, rfl, h1, h2⟩, ⟨C, D, rfl, rfl, h3, h4⟩⟩ := h
    obtain ⟨x, y, b, hb⟩ := ifP_pb (red (.node A C, .node B D))
    refine ⟨x, y, b, ?_⟩
    rw [← hb]
    exact ⟨specHalvesPair_yes A B C D h1 h2 h3 h4, HalvesPair_yes A B C D h1 h2 h3 h4⟩
  · exact ⟨⟨#[]⟩, ⟨#[]⟩, false, specHalvesPair_no _ _ _ _ h, HalvesPair_no _ _ _ _ h⟩
end Go.Proofs.YtpmmajfdcicjiaaGreat.N
