/-
  No cell of these rows narrows 'for every input' (looked for: loops, veiled, ifaces, maps, wideKeys, modest, calm, conditions, laid).
  DERIVED. THE GIVEN ROWS OF THIS SEAT. 12 by the template 'for every input the law returns true; each argument reads behind the call as it read before'; 0 by the template 'total and deterministic' (their statements: YtpjpnfmbdknoaaaTotals.lean).
  GIVEN WITH THE SEED: the statements are not yours to turn. If you find one false, say at which input.
  Laid BY PROGRAM, IN A SANDBOX (cutbox-rows.mjs): the forced cells as the released guide's own fill.sh prints them over the translation 9db4954cd3ef8405… (all of the seat's roots in one cut). By AI agents, Wed Nov 11 2026. No macro, syntax, notation, axiom, sorry.
-/
import Derived.Test.YtpjpnfmbdknoaaaChecked
import GoSem.Claim
import GoSem.ClaimJoined
import GoSem.ClaimMapViews
import Derived.JoinedTies
import Derived.KernelRfl
namespace Go.Proofs.Ytpjpnfmbdknoaaa
/- THE CELL 'sum', in the pinned program and in every row, IS THE sha256 OF THE DUMP (.gsa) THAT YtpjpnfmbdknoaaaProg.lean LOADS. Nothing in Lean hashes anything: it is a label: what it is worth is what the hold of that sum in a sandbox is worth. -/
noncomputable def Try.pinned : Pinned := { name := "ytpjpnfmbdknoaaa", sum := "9db4954cd3ef8405194c66f1c48f8be6aa1a171b681f0ae4a16299db1059e1b9", checked := Try.checked }
namespace Rows
def none {H : Type} : Left H := { results := [], args := [] }

/-- 'laws.FnExactFirstDesk': WHATEVER THE INPUT: true; the input reads as it did. -/
def fnExactFirstDeskSpec : ChangeSpec := { name := "fnExactFirstDesk", fn := fun _ => fun
  | [] => { results := [.lit (.bool true)], args := [] }
  | _ => none }
def fnExactFirstDeskRow : OpenClaim := { program := "ytpjpnfmbdknoaaa", sum := "9db4954cd3ef8405194c66f1c48f8be6aa1a171b681f0ae4a16299db1059e1b9", func := "loop.example/g01161/laws.FnExactFirstDesk", spec := "fnExactFirstDesk", unfollowed := true, recurses := true, apart := false }
def FnExactFirstDeskSaid : Prop := fnExactFirstDeskRow.holds Try.pinned (OpenSpec.ofChange fnExactFirstDeskSpec)

/-- ITS FALSE NEIGHBOUR: 'it returns false'. Refute it at one input. -/
def fnExactFirstDeskWrong : ChangeSpec := { name := "fnExactFirstDesk", fn := fun _ => fun
  | [] => { results := [.lit (.bool false)], args := [] }
  | _ => none }
def FnExactFirstDeskWrongFalsely : Prop := fnExactFirstDeskRow.holds Try.pinned (OpenSpec.ofChange fnExactFirstDeskWrong)

/-- 'laws.FnExactCountRotations': WHATEVER THE INPUT: true; the input reads as it did. -/
def fnExactCountRotationsSpec : ChangeSpec := { name := "fnExactCountRotations", fn := fun _ => fun
  | [d] => { results := [.lit (.bool true)], args := [d] }
  | _ => none }
def fnExactCountRotationsRow : OpenClaim := { program := "ytpjpnfmbdknoaaa", sum := "9db4954cd3ef8405194c66f1c48f8be6aa1a171b681f0ae4a16299db1059e1b9", func := "loop.example/g01161/laws.FnExactCountRotations", spec := "fnExactCountRotations", recurses := true, apart := false }
def FnExactCountRotationsSaid : Prop := fnExactCountRotationsRow.holds Try.pinned (OpenSpec.ofChange fnExactCountRotationsSpec)

/-- ITS FALSE NEIGHBOUR: 'it returns false'. Refute it at one input. -/
def fnExactCountRotationsWrong : ChangeSpec := { name := "fnExactCountRotations", fn := fun _ => fun
  | [d] => { results := [.lit (.bool false)], args := [d] }
  | _ => none }
def FnExactCountRotationsWrongFalsely : Prop := fnExactCountRotationsRow.holds Try.pinned (OpenSpec.ofChange fnExactCountRotationsWrong)

/-- 'laws.FnExactBracketText': WHATEVER THE INPUT: true; the input reads as it did. -/
def fnExactBracketTextSpec : ChangeSpec := { name := "fnExactBracketText", fn := fun _ => fun
  | [d1, d2] => { results := [.lit (.bool true)], args := [d1, d2] }
  | _ => none }
def fnExactBracketTextRow : OpenClaim := { program := "ytpjpnfmbdknoaaa", sum := "9db4954cd3ef8405194c66f1c48f8be6aa1a171b681f0ae4a16299db1059e1b9", func := "loop.example/g01161/laws.FnExactBracketText", spec := "fnExactBracketText", recurses := true, apart := false }
def FnExactBracketTextSaid : Prop := fnExactBracketTextRow.holds Try.pinned (OpenSpec.ofChange fnExactBracketTextSpec)

/-- ITS FALSE NEIGHBOUR: 'it returns false'. Refute it at one input. -/
def fnExactBracketTextWrong : ChangeSpec := { name := "fnExactBracketText", fn := fun _ => fun
  | [d1, d2] => { results := [.lit (.bool false)], args := [d1, d2] }
  | _ => none }
def FnExactBracketTextWrongFalsely : Prop := fnExactBracketTextRow.holds Try.pinned (OpenSpec.ofChange fnExactBracketTextWrong)

/-- 'laws.FnExactIsAssociative': WHATEVER THE INPUT: true; the input reads as it did. -/
def fnExactIsAssociativeSpec : ChangeSpec := { name := "fnExactIsAssociative", fn := fun _ => fun
  | [d] => { results := [.lit (.bool true)], args := [d] }
  | _ => none }
def fnExactIsAssociativeRow : OpenClaim := { program := "ytpjpnfmbdknoaaa", sum := "9db4954cd3ef8405194c66f1c48f8be6aa1a171b681f0ae4a16299db1059e1b9", func := "loop.example/g01161/laws.FnExactIsAssociative", spec := "fnExactIsAssociative", apart := false }
def FnExactIsAssociativeSaid : Prop := fnExactIsAssociativeRow.holds Try.pinned (OpenSpec.ofChange fnExactIsAssociativeSpec)

/-- ITS FALSE NEIGHBOUR: 'it returns false'. Refute it at one input. -/
def fnExactIsAssociativeWrong : ChangeSpec := { name := "fnExactIsAssociative", fn := fun _ => fun
  | [d] => { results := [.lit (.bool false)], args := [d] }
  | _ => none }
def FnExactIsAssociativeWrongFalsely : Prop := fnExactIsAssociativeRow.holds Try.pinned (OpenSpec.ofChange fnExactIsAssociativeWrong)

/-- 'laws.FnExactFirstBroken': WHATEVER THE INPUT: true; the input reads as it did. -/
def fnExactFirstBrokenSpec : ChangeSpec := { name := "fnExactFirstBroken", fn := fun _ => fun
  | [d] => { results := [.lit (.bool true)], args := [d] }
  | _ => none }
def fnExactFirstBrokenRow : OpenClaim := { program := "ytpjpnfmbdknoaaa", sum := "9db4954cd3ef8405194c66f1c48f8be6aa1a171b681f0ae4a16299db1059e1b9", func := "loop.example/g01161/laws.FnExactFirstBroken", spec := "fnExactFirstBroken", apart := false }
def FnExactFirstBrokenSaid : Prop := fnExactFirstBrokenRow.holds Try.pinned (OpenSpec.ofChange fnExactFirstBrokenSpec)

/-- ITS FALSE NEIGHBOUR: 'it returns false'. Refute it at one input. -/
def fnExactFirstBrokenWrong : ChangeSpec := { name := "fnExactFirstBroken", fn := fun _ => fun
  | [d] => { results := [.lit (.bool false)], args := [d] }
  | _ => none }
def FnExactFirstBrokenWrongFalsely : Prop := fnExactFirstBrokenRow.holds Try.pinned (OpenSpec.ofChange fnExactFirstBrokenWrong)

/-- 'laws.FnExactRotateAt': WHATEVER THE INPUT: true; the input reads as it did. -/
def fnExactRotateAtSpec : ChangeSpec := { name := "fnExactRotateAt", fn := fun _ => fun
  | [d1, d2] => { results := [.lit (.bool true)], args := [d1, d2] }
  | _ => none }
def fnExactRotateAtRow : OpenClaim := { program := "ytpjpnfmbdknoaaa", sum := "9db4954cd3ef8405194c66f1c48f8be6aa1a171b681f0ae4a16299db1059e1b9", func := "loop.example/g01161/laws.FnExactRotateAt", spec := "fnExactRotateAt", recurses := true, apart := false }
def FnExactRotateAtSaid : Prop := fnExactRotateAtRow.holds Try.pinned (OpenSpec.ofChange fnExactRotateAtSpec)

/-- ITS FALSE NEIGHBOUR: 'it returns false'. Refute it at one input. -/
def fnExactRotateAtWrong : ChangeSpec := { name := "fnExactRotateAt", fn := fun _ => fun
  | [d1, d2] => { results := [.lit (.bool false)], args := [d1, d2] }
  | _ => none }
def FnExactRotateAtWrongFalsely : Prop := fnExactRotateAtRow.holds Try.pinned (OpenSpec.ofChange fnExactRotateAtWrong)

/-- 'laws.FnExactRotateBack': WHATEVER THE INPUT: true; the input reads as it did. -/
def fnExactRotateBackSpec : ChangeSpec := { name := "fnExactRotateBack", fn := fun _ => fun
  | [d1, d2] => { results := [.lit (.bool true)], args := [d1, d2] }
  | _ => none }
def fnExactRotateBackRow : OpenClaim := { program := "ytpjpnfmbdknoaaa", sum := "9db4954cd3ef8405194c66f1c48f8be6aa1a171b681f0ae4a16299db1059e1b9", func := "loop.example/g01161/laws.FnExactRotateBack", spec := "fnExactRotateBack", recurses := true, apart := false }
def FnExactRotateBackSaid : Prop := fnExactRotateBackRow.holds Try.pinned (OpenSpec.ofChange fnExactRotateBackSpec)

/-- ITS FALSE NEIGHBOUR: 'it returns false'. Refute it at one input. -/
def fnExactRotateBackWrong : ChangeSpec := { name := "fnExactRotateBack", fn := fun _ => fun
  | [d1, d2] => { results := [.lit (.bool false)], args := [d1, d2] }
  | _ => none }
def FnExactRotateBackWrongFalsely : Prop := fnExactRotateBackRow.holds Try.pinned (OpenSpec.ofChange fnExactRotateBackWrong)

/-- 'laws.FnExactPlacesToRotate': WHATEVER THE INPUT: true; the input reads as it did. -/
def fnExactPlacesToRotateSpec : ChangeSpec := { name := "fnExactPlacesToRotate", fn := fun _ => fun
  | [d] => { results := [.lit (.bool true)], args := [d] }
  | _ => none }
def fnExactPlacesToRotateRow : OpenClaim := { program := "ytpjpnfmbdknoaaa", sum := "9db4954cd3ef8405194c66f1c48f8be6aa1a171b681f0ae4a16299db1059e1b9", func := "loop.example/g01161/laws.FnExactPlacesToRotate", spec := "fnExactPlacesToRotate", recurses := true, apart := false }
def FnExactPlacesToRotateSaid : Prop := fnExactPlacesToRotateRow.holds Try.pinned (OpenSpec.ofChange fnExactPlacesToRotateSpec)

/-- ITS FALSE NEIGHBOUR: 'it returns false'. Refute it at one input. -/
def fnExactPlacesToRotateWrong : ChangeSpec := { name := "fnExactPlacesToRotate", fn := fun _ => fun
  | [d] => { results := [.lit (.bool false)], args := [d] }
  | _ => none }
def FnExactPlacesToRotateWrongFalsely : Prop := fnExactPlacesToRotateRow.holds Try.pinned (OpenSpec.ofChange fnExactPlacesToRotateWrong)

/-- 'laws.FnExactValueOfTree': WHATEVER THE INPUT: true; the input reads as it did. -/
def fnExactValueOfTreeSpec : ChangeSpec := { name := "fnExactValueOfTree", fn := fun _ => fun
  | [d1, d2, d3] => { results := [.lit (.bool true)], args := [d1, d2, d3] }
  | _ => none }
def fnExactValueOfTreeRow : OpenClaim := { program := "ytpjpnfmbdknoaaa", sum := "9db4954cd3ef8405194c66f1c48f8be6aa1a171b681f0ae4a16299db1059e1b9", func := "loop.example/g01161/laws.FnExactValueOfTree", spec := "fnExactValueOfTree", recurses := true, apart := false }
def FnExactValueOfTreeSaid : Prop := fnExactValueOfTreeRow.holds Try.pinned (OpenSpec.ofChange fnExactValueOfTreeSpec)

/-- ITS FALSE NEIGHBOUR: 'it returns false'. Refute it at one input. -/
def fnExactValueOfTreeWrong : ChangeSpec := { name := "fnExactValueOfTree", fn := fun _ => fun
  | [d1, d2, d3] => { results := [.lit (.bool false)], args := [d1, d2, d3] }
  | _ => none }
def FnExactValueOfTreeWrongFalsely : Prop := fnExactValueOfTreeRow.holds Try.pinned (OpenSpec.ofChange fnExactValueOfTreeWrong)

/-- 'laws.FnExactChainToRight': WHATEVER THE INPUT: true; the input reads as it did. -/
def fnExactChainToRightSpec : ChangeSpec := { name := "fnExactChainToRight", fn := fun _ => fun
  | [d] => { results := [.lit (.bool true)], args := [d] }
  | _ => none }
def fnExactChainToRightRow : OpenClaim := { program := "ytpjpnfmbdknoaaa", sum := "9db4954cd3ef8405194c66f1c48f8be6aa1a171b681f0ae4a16299db1059e1b9", func := "loop.example/g01161/laws.FnExactChainToRight", spec := "fnExactChainToRight", recurses := true, apart := false }
def FnExactChainToRightSaid : Prop := fnExactChainToRightRow.holds Try.pinned (OpenSpec.ofChange fnExactChainToRightSpec)

/-- ITS FALSE NEIGHBOUR: 'it returns false'. Refute it at one input. -/
def fnExactChainToRightWrong : ChangeSpec := { name := "fnExactChainToRight", fn := fun _ => fun
  | [d] => { results := [.lit (.bool false)], args := [d] }
  | _ => none }
def FnExactChainToRightWrongFalsely : Prop := fnExactChainToRightRow.holds Try.pinned (OpenSpec.ofChange fnExactChainToRightWrong)

/-- 'laws.FnExactShiftPair': WHATEVER THE INPUT: true; the input reads as it did. -/
def fnExactShiftPairSpec : ChangeSpec := { name := "fnExactShiftPair", fn := fun _ => fun
  | [d] => { results := [.lit (.bool true)], args := [d] }
  | _ => none }
def fnExactShiftPairRow : OpenClaim := { program := "ytpjpnfmbdknoaaa", sum := "9db4954cd3ef8405194c66f1c48f8be6aa1a171b681f0ae4a16299db1059e1b9", func := "loop.example/g01161/laws.FnExactShiftPair", spec := "fnExactShiftPair", recurses := true, apart := false }
def FnExactShiftPairSaid : Prop := fnExactShiftPairRow.holds Try.pinned (OpenSpec.ofChange fnExactShiftPairSpec)

/-- ITS FALSE NEIGHBOUR: 'it returns false'. Refute it at one input. -/
def fnExactShiftPairWrong : ChangeSpec := { name := "fnExactShiftPair", fn := fun _ => fun
  | [d] => { results := [.lit (.bool false)], args := [d] }
  | _ => none }
def FnExactShiftPairWrongFalsely : Prop := fnExactShiftPairRow.holds Try.pinned (OpenSpec.ofChange fnExactShiftPairWrong)

/-- 'laws.FnExactHalvesPair': WHATEVER THE INPUT: true; the input reads as it did. -/
def fnExactHalvesPairSpec : ChangeSpec := { name := "fnExactHalvesPair", fn := fun _ => fun
  | [d1, d2] => { results := [.lit (.bool true)], args := [d1, d2] }
  | _ => none }
def fnExactHalvesPairRow : OpenClaim := { program := "ytpjpnfmbdknoaaa", sum := "9db4954cd3ef8405194c66f1c48f8be6aa1a171b681f0ae4a16299db1059e1b9", func := "loop.example/g01161/laws.FnExactHalvesPair", spec := "fnExactHalvesPair", recurses := true, apart := false }
def FnExactHalvesPairSaid : Prop := fnExactHalvesPairRow.holds Try.pinned (OpenSpec.ofChange fnExactHalvesPairSpec)

/-- ITS FALSE NEIGHBOUR: 'it returns false'. Refute it at one input. -/
def fnExactHalvesPairWrong : ChangeSpec := { name := "fnExactHalvesPair", fn := fun _ => fun
  | [d1, d2] => { results := [.lit (.bool false)], args := [d1, d2] }
  | _ => none }
def FnExactHalvesPairWrongFalsely : Prop := fnExactHalvesPairRow.holds Try.pinned (OpenSpec.ofChange fnExactHalvesPairWrong)

/- THE SECOND FORM. 'bulk': how many values and letters a reading holds, each counted each time it is reached (what is shared counts as often as it is met; a slice's spare places count too). A statement '..UptoSaid' is the law's where the arguments, and the package variables that the reading takes, are together of bulk at most 1048576: NARROWER than '..Said'. Prove '..Said' where nothing that the law and all that it calls make is longer than what came in: it says more and counts as full. Else prove '..UptoSaid'. A law counts once. -/
mutual
def uptoBulk {H : Type} : DataW H → Nat
  | .lit (.string bytes) => bytes.length + 1
  | .lit _ => 1
  | .nil => 1
  | .ptr d => uptoBulk d + 1
  | .slice elems spare => uptoBulkAll elems + uptoBulkAll spare + 1
  | .agg parts => uptoBulkAll parts + 1
  | .iface _ d => uptoBulk d + 1
  | .map entries => uptoBulkEntries entries + 1
  | .held _ => 1
def uptoBulkAll {H : Type} : List (DataW H) → Nat
  | [] => 0
  | d :: r => uptoBulk d + uptoBulkAll r
def uptoBulkEntries {H : Type} : List (Lit × DataW H) → Nat
  | [] => 0
  | x :: r => uptoBulkEntry x + uptoBulkEntries r
def uptoBulkEntry {H : Type} : Lit × DataW H → Nat
  | (.string bytes, d) => bytes.length + uptoBulk d + 1
  | (_, d) => uptoBulk d + 1
 end
def uptoSmall : (H : Type) → List (DataW H) → Bool := fun _ ds => decide (uptoBulkAll ds ≤ 1048576)
def OpenSpec.upto (s : _root_.Go.ChangeSpec) : _root_.Go.OpenSpec := { _root_.Go.OpenSpec.ofChange s with cond := some uptoSmall }

/-- 'laws.FnExactFirstDesk', WHERE WHAT IT READS IS OF BULK AT MOST 1048576: true; the input reads as it did. -/
def fnExactFirstDeskUptoRow : OpenClaim := { program := "ytpjpnfmbdknoaaa", sum := "9db4954cd3ef8405194c66f1c48f8be6aa1a171b681f0ae4a16299db1059e1b9", func := "loop.example/g01161/laws.FnExactFirstDesk", spec := "fnExactFirstDesk", unfollowed := true, recurses := true, apart := false, narrowed := true }
def FnExactFirstDeskUptoSaid : Prop := fnExactFirstDeskUptoRow.holds Try.pinned (OpenSpec.upto fnExactFirstDeskSpec)

/-- 'laws.FnExactCountRotations', WHERE WHAT IT READS IS OF BULK AT MOST 1048576: true; the input reads as it did. -/
def fnExactCountRotationsUptoRow : OpenClaim := { program := "ytpjpnfmbdknoaaa", sum := "9db4954cd3ef8405194c66f1c48f8be6aa1a171b681f0ae4a16299db1059e1b9", func := "loop.example/g01161/laws.FnExactCountRotations", spec := "fnExactCountRotations", recurses := true, apart := false, narrowed := true }
def FnExactCountRotationsUptoSaid : Prop := fnExactCountRotationsUptoRow.holds Try.pinned (OpenSpec.upto fnExactCountRotationsSpec)

/-- 'laws.FnExactBracketText', WHERE WHAT IT READS IS OF BULK AT MOST 1048576: true; the input reads as it did. -/
def fnExactBracketTextUptoRow : OpenClaim := { program := "ytpjpnfmbdknoaaa", sum := "9db4954cd3ef8405194c66f1c48f8be6aa1a171b681f0ae4a16299db1059e1b9", func := "loop.example/g01161/laws.FnExactBracketText", spec := "fnExactBracketText", recurses := true, apart := false, narrowed := true }
def FnExactBracketTextUptoSaid : Prop := fnExactBracketTextUptoRow.holds Try.pinned (OpenSpec.upto fnExactBracketTextSpec)

/-- 'laws.FnExactIsAssociative', WHERE WHAT IT READS IS OF BULK AT MOST 1048576: true; the input reads as it did. -/
def fnExactIsAssociativeUptoRow : OpenClaim := { program := "ytpjpnfmbdknoaaa", sum := "9db4954cd3ef8405194c66f1c48f8be6aa1a171b681f0ae4a16299db1059e1b9", func := "loop.example/g01161/laws.FnExactIsAssociative", spec := "fnExactIsAssociative", apart := false, narrowed := true }
def FnExactIsAssociativeUptoSaid : Prop := fnExactIsAssociativeUptoRow.holds Try.pinned (OpenSpec.upto fnExactIsAssociativeSpec)

/-- 'laws.FnExactFirstBroken', WHERE WHAT IT READS IS OF BULK AT MOST 1048576: true; the input reads as it did. -/
def fnExactFirstBrokenUptoRow : OpenClaim := { program := "ytpjpnfmbdknoaaa", sum := "9db4954cd3ef8405194c66f1c48f8be6aa1a171b681f0ae4a16299db1059e1b9", func := "loop.example/g01161/laws.FnExactFirstBroken", spec := "fnExactFirstBroken", apart := false, narrowed := true }
def FnExactFirstBrokenUptoSaid : Prop := fnExactFirstBrokenUptoRow.holds Try.pinned (OpenSpec.upto fnExactFirstBrokenSpec)

/-- 'laws.FnExactRotateAt', WHERE WHAT IT READS IS OF BULK AT MOST 1048576: true; the input reads as it did. -/
def fnExactRotateAtUptoRow : OpenClaim := { program := "ytpjpnfmbdknoaaa", sum := "9db4954cd3ef8405194c66f1c48f8be6aa1a171b681f0ae4a16299db1059e1b9", func := "loop.example/g01161/laws.FnExactRotateAt", spec := "fnExactRotateAt", recurses := true, apart := false, narrowed := true }
def FnExactRotateAtUptoSaid : Prop := fnExactRotateAtUptoRow.holds Try.pinned (OpenSpec.upto fnExactRotateAtSpec)

/-- 'laws.FnExactRotateBack', WHERE WHAT IT READS IS OF BULK AT MOST 1048576: true; the input reads as it did. -/
def fnExactRotateBackUptoRow : OpenClaim := { program := "ytpjpnfmbdknoaaa", sum := "9db4954cd3ef8405194c66f1c48f8be6aa1a171b681f0ae4a16299db1059e1b9", func := "loop.example/g01161/laws.FnExactRotateBack", spec := "fnExactRotateBack", recurses := true, apart := false, narrowed := true }
def FnExactRotateBackUptoSaid : Prop := fnExactRotateBackUptoRow.holds Try.pinned (OpenSpec.upto fnExactRotateBackSpec)

/-- 'laws.FnExactPlacesToRotate', WHERE WHAT IT READS IS OF BULK AT MOST 1048576: true; the input reads as it did. -/
def fnExactPlacesToRotateUptoRow : OpenClaim := { program := "ytpjpnfmbdknoaaa", sum := "9db4954cd3ef8405194c66f1c48f8be6aa1a171b681f0ae4a16299db1059e1b9", func := "loop.example/g01161/laws.FnExactPlacesToRotate", spec := "fnExactPlacesToRotate", recurses := true, apart := false, narrowed := true }
def FnExactPlacesToRotateUptoSaid : Prop := fnExactPlacesToRotateUptoRow.holds Try.pinned (OpenSpec.upto fnExactPlacesToRotateSpec)

/-- 'laws.FnExactValueOfTree', WHERE WHAT IT READS IS OF BULK AT MOST 1048576: true; the input reads as it did. -/
def fnExactValueOfTreeUptoRow : OpenClaim := { program := "ytpjpnfmbdknoaaa", sum := "9db4954cd3ef8405194c66f1c48f8be6aa1a171b681f0ae4a16299db1059e1b9", func := "loop.example/g01161/laws.FnExactValueOfTree", spec := "fnExactValueOfTree", recurses := true, apart := false, narrowed := true }
def FnExactValueOfTreeUptoSaid : Prop := fnExactValueOfTreeUptoRow.holds Try.pinned (OpenSpec.upto fnExactValueOfTreeSpec)

/-- 'laws.FnExactChainToRight', WHERE WHAT IT READS IS OF BULK AT MOST 1048576: true; the input reads as it did. -/
def fnExactChainToRightUptoRow : OpenClaim := { program := "ytpjpnfmbdknoaaa", sum := "9db4954cd3ef8405194c66f1c48f8be6aa1a171b681f0ae4a16299db1059e1b9", func := "loop.example/g01161/laws.FnExactChainToRight", spec := "fnExactChainToRight", recurses := true, apart := false, narrowed := true }
def FnExactChainToRightUptoSaid : Prop := fnExactChainToRightUptoRow.holds Try.pinned (OpenSpec.upto fnExactChainToRightSpec)

/-- 'laws.FnExactShiftPair', WHERE WHAT IT READS IS OF BULK AT MOST 1048576: true; the input reads as it did. -/
def fnExactShiftPairUptoRow : OpenClaim := { program := "ytpjpnfmbdknoaaa", sum := "9db4954cd3ef8405194c66f1c48f8be6aa1a171b681f0ae4a16299db1059e1b9", func := "loop.example/g01161/laws.FnExactShiftPair", spec := "fnExactShiftPair", recurses := true, apart := false, narrowed := true }
def FnExactShiftPairUptoSaid : Prop := fnExactShiftPairUptoRow.holds Try.pinned (OpenSpec.upto fnExactShiftPairSpec)

/-- 'laws.FnExactHalvesPair', WHERE WHAT IT READS IS OF BULK AT MOST 1048576: true; the input reads as it did. -/
def fnExactHalvesPairUptoRow : OpenClaim := { program := "ytpjpnfmbdknoaaa", sum := "9db4954cd3ef8405194c66f1c48f8be6aa1a171b681f0ae4a16299db1059e1b9", func := "loop.example/g01161/laws.FnExactHalvesPair", spec := "fnExactHalvesPair", recurses := true, apart := false, narrowed := true }
def FnExactHalvesPairUptoSaid : Prop := fnExactHalvesPairUptoRow.holds Try.pinned (OpenSpec.upto fnExactHalvesPairSpec)

end Rows
end Go.Proofs.Ytpjpnfmbdknoaaa
