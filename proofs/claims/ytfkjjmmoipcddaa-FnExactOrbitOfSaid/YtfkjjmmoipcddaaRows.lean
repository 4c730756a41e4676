/-
  No cell of these rows narrows 'for every input' (looked for: loops, veiled, ifaces, maps, wideKeys, modest, calm, conditions, laid).
  DERIVED. THE GIVEN ROWS OF THIS SEAT. 12 by the template 'for every input the law returns true; each argument reads behind the call as it read before'; 0 by the template 'total and deterministic' (their statements: YtfkjjmmoipcddaaTotals.lean).
  GIVEN WITH THE SEED: the statements are not yours to turn. If you find one false, say at which input.
  Laid BY PROGRAM, IN A SANDBOX (cutbox-rows.mjs): the forced cells as the released guide's own fill.sh prints them over the translation 9c5db63500d6a4d5… (all of the seat's roots in one cut). By AI agents, Wed Nov 11 2026. No macro, syntax, notation, axiom, sorry.
-/
import Derived.Test.YtfkjjmmoipcddaaChecked
import GoSem.Claim
import GoSem.ClaimJoined
import GoSem.ClaimMapViews
import Derived.JoinedTies
import Derived.KernelRfl
namespace Go.Proofs.Ytfkjjmmoipcddaa
/- THE CELL 'sum', in the pinned program and in every row, IS THE sha256 OF THE DUMP (.gsa) THAT YtfkjjmmoipcddaaProg.lean LOADS. Nothing in Lean hashes anything: it is a label: what it is worth is what the hold of that sum in a sandbox is worth. -/
noncomputable def Try.pinned : Pinned := { name := "ytfkjjmmoipcddaa", sum := "9c5db63500d6a4d5b3bbd74196ed4bc6d977c78c7fdaabcab4b1ca1ac3332507", checked := Try.checked }
namespace Rows
def none {H : Type} : Left H := { results := [], args := [] }

/-- 'laws.FnExactChainBetween': WHATEVER THE INPUT: true; the input reads as it did. -/
def fnExactChainBetweenSpec : ChangeSpec := { name := "fnExactChainBetween", fn := fun _ => fun
  | [d1, d2] => { results := [.lit (.bool true)], args := [d1, d2] }
  | _ => none }
def fnExactChainBetweenRow : OpenClaim := { program := "ytfkjjmmoipcddaa", sum := "9c5db63500d6a4d5b3bbd74196ed4bc6d977c78c7fdaabcab4b1ca1ac3332507", func := "loop.example/g01161/laws.FnExactChainBetween", spec := "fnExactChainBetween", recurses := true, apart := false }
def FnExactChainBetweenSaid : Prop := fnExactChainBetweenRow.holds Try.pinned (OpenSpec.ofChange fnExactChainBetweenSpec)

/-- ITS FALSE NEIGHBOUR: 'it returns false'. Refute it at one input. -/
def fnExactChainBetweenWrong : ChangeSpec := { name := "fnExactChainBetween", fn := fun _ => fun
  | [d1, d2] => { results := [.lit (.bool false)], args := [d1, d2] }
  | _ => none }
def FnExactChainBetweenWrongFalsely : Prop := fnExactChainBetweenRow.holds Try.pinned (OpenSpec.ofChange fnExactChainBetweenWrong)

/-- 'laws.FnExactRotationPair': WHATEVER THE INPUT: true; the input reads as it did. -/
def fnExactRotationPairSpec : ChangeSpec := { name := "fnExactRotationPair", fn := fun _ => fun
  | [d1, d2] => { results := [.lit (.bool true)], args := [d1, d2] }
  | _ => none }
def fnExactRotationPairRow : OpenClaim := { program := "ytfkjjmmoipcddaa", sum := "9c5db63500d6a4d5b3bbd74196ed4bc6d977c78c7fdaabcab4b1ca1ac3332507", func := "loop.example/g01161/laws.FnExactRotationPair", spec := "fnExactRotationPair", recurses := true, apart := false }
def FnExactRotationPairSaid : Prop := fnExactRotationPairRow.holds Try.pinned (OpenSpec.ofChange fnExactRotationPairSpec)

/-- ITS FALSE NEIGHBOUR: 'it returns false'. Refute it at one input. -/
def fnExactRotationPairWrong : ChangeSpec := { name := "fnExactRotationPair", fn := fun _ => fun
  | [d1, d2] => { results := [.lit (.bool false)], args := [d1, d2] }
  | _ => none }
def FnExactRotationPairWrongFalsely : Prop := fnExactRotationPairRow.holds Try.pinned (OpenSpec.ofChange fnExactRotationPairWrong)

/-- 'laws.FnExactSplitHalves': WHATEVER THE INPUT: true; the input reads as it did. -/
def fnExactSplitHalvesSpec : ChangeSpec := { name := "fnExactSplitHalves", fn := fun _ => fun
  | [d] => { results := [.lit (.bool true)], args := [d] }
  | _ => none }
def fnExactSplitHalvesRow : OpenClaim := { program := "ytfkjjmmoipcddaa", sum := "9c5db63500d6a4d5b3bbd74196ed4bc6d977c78c7fdaabcab4b1ca1ac3332507", func := "loop.example/g01161/laws.FnExactSplitHalves", spec := "fnExactSplitHalves", recurses := true, apart := false }
def FnExactSplitHalvesSaid : Prop := fnExactSplitHalvesRow.holds Try.pinned (OpenSpec.ofChange fnExactSplitHalvesSpec)

/-- ITS FALSE NEIGHBOUR: 'it returns false'. Refute it at one input. -/
def fnExactSplitHalvesWrong : ChangeSpec := { name := "fnExactSplitHalves", fn := fun _ => fun
  | [d] => { results := [.lit (.bool false)], args := [d] }
  | _ => none }
def FnExactSplitHalvesWrongFalsely : Prop := fnExactSplitHalvesRow.holds Try.pinned (OpenSpec.ofChange fnExactSplitHalvesWrong)

/-- 'laws.FnExactKeepsValues': WHATEVER THE INPUT: true; the input reads as it did. -/
def fnExactKeepsValuesSpec : ChangeSpec := { name := "fnExactKeepsValues", fn := fun _ => fun
  | [d1, d2] => { results := [.lit (.bool true)], args := [d1, d2] }
  | _ => none }
def fnExactKeepsValuesRow : OpenClaim := { program := "ytfkjjmmoipcddaa", sum := "9c5db63500d6a4d5b3bbd74196ed4bc6d977c78c7fdaabcab4b1ca1ac3332507", func := "loop.example/g01161/laws.FnExactKeepsValues", spec := "fnExactKeepsValues", recurses := true, apart := false }
def FnExactKeepsValuesSaid : Prop := fnExactKeepsValuesRow.holds Try.pinned (OpenSpec.ofChange fnExactKeepsValuesSpec)

/-- ITS FALSE NEIGHBOUR: 'it returns false'. Refute it at one input. -/
def fnExactKeepsValuesWrong : ChangeSpec := { name := "fnExactKeepsValues", fn := fun _ => fun
  | [d1, d2] => { results := [.lit (.bool false)], args := [d1, d2] }
  | _ => none }
def FnExactKeepsValuesWrongFalsely : Prop := fnExactKeepsValuesRow.holds Try.pinned (OpenSpec.ofChange fnExactKeepsValuesWrong)

/-- 'laws.FnExactNeighboursOf': WHATEVER THE INPUT: true; the input reads as it did. -/
def fnExactNeighboursOfSpec : ChangeSpec := { name := "fnExactNeighboursOf", fn := fun _ => fun
  | [d] => { results := [.lit (.bool true)], args := [d] }
  | _ => none }
def fnExactNeighboursOfRow : OpenClaim := { program := "ytfkjjmmoipcddaa", sum := "9c5db63500d6a4d5b3bbd74196ed4bc6d977c78c7fdaabcab4b1ca1ac3332507", func := "loop.example/g01161/laws.FnExactNeighboursOf", spec := "fnExactNeighboursOf", unfollowed := true, recurses := true, apart := false }
def FnExactNeighboursOfSaid : Prop := fnExactNeighboursOfRow.holds Try.pinned (OpenSpec.ofChange fnExactNeighboursOfSpec)

/-- ITS FALSE NEIGHBOUR: 'it returns false'. Refute it at one input. -/
def fnExactNeighboursOfWrong : ChangeSpec := { name := "fnExactNeighboursOf", fn := fun _ => fun
  | [d] => { results := [.lit (.bool false)], args := [d] }
  | _ => none }
def FnExactNeighboursOfWrongFalsely : Prop := fnExactNeighboursOfRow.holds Try.pinned (OpenSpec.ofChange fnExactNeighboursOfWrong)

/-- 'laws.FnExactRotationDistance': WHATEVER THE INPUT: true; the input reads as it did. -/
def fnExactRotationDistanceSpec : ChangeSpec := { name := "fnExactRotationDistance", fn := fun _ => fun
  | [d1, d2] => { results := [.lit (.bool true)], args := [d1, d2] }
  | _ => none }
def fnExactRotationDistanceRow : OpenClaim := { program := "ytfkjjmmoipcddaa", sum := "9c5db63500d6a4d5b3bbd74196ed4bc6d977c78c7fdaabcab4b1ca1ac3332507", func := "loop.example/g01161/laws.FnExactRotationDistance", spec := "fnExactRotationDistance", unfollowed := true, recurses := true, apart := false }
def FnExactRotationDistanceSaid : Prop := fnExactRotationDistanceRow.holds Try.pinned (OpenSpec.ofChange fnExactRotationDistanceSpec)

/-- ITS FALSE NEIGHBOUR: 'it returns false'. Refute it at one input. -/
def fnExactRotationDistanceWrong : ChangeSpec := { name := "fnExactRotationDistance", fn := fun _ => fun
  | [d1, d2] => { results := [.lit (.bool false)], args := [d1, d2] }
  | _ => none }
def FnExactRotationDistanceWrongFalsely : Prop := fnExactRotationDistanceRow.holds Try.pinned (OpenSpec.ofChange fnExactRotationDistanceWrong)

/-- 'laws.FnExactConjugatePair': WHATEVER THE INPUT: true; the input reads as it did. -/
def fnExactConjugatePairSpec : ChangeSpec := { name := "fnExactConjugatePair", fn := fun _ => fun
  | [d1, d2] => { results := [.lit (.bool true)], args := [d1, d2] }
  | _ => none }
def fnExactConjugatePairRow : OpenClaim := { program := "ytfkjjmmoipcddaa", sum := "9c5db63500d6a4d5b3bbd74196ed4bc6d977c78c7fdaabcab4b1ca1ac3332507", func := "loop.example/g01161/laws.FnExactConjugatePair", spec := "fnExactConjugatePair", unfollowed := true, recurses := true, apart := false }
def FnExactConjugatePairSaid : Prop := fnExactConjugatePairRow.holds Try.pinned (OpenSpec.ofChange fnExactConjugatePairSpec)

/-- ITS FALSE NEIGHBOUR: 'it returns false'. Refute it at one input. -/
def fnExactConjugatePairWrong : ChangeSpec := { name := "fnExactConjugatePair", fn := fun _ => fun
  | [d1, d2] => { results := [.lit (.bool false)], args := [d1, d2] }
  | _ => none }
def FnExactConjugatePairWrongFalsely : Prop := fnExactConjugatePairRow.holds Try.pinned (OpenSpec.ofChange fnExactConjugatePairWrong)

/-- 'laws.FnExactSumsOfPair': WHATEVER THE INPUT: true; the input reads as it did. -/
def fnExactSumsOfPairSpec : ChangeSpec := { name := "fnExactSumsOfPair", fn := fun _ => fun
  | [d] => { results := [.lit (.bool true)], args := [d] }
  | _ => none }
def fnExactSumsOfPairRow : OpenClaim := { program := "ytfkjjmmoipcddaa", sum := "9c5db63500d6a4d5b3bbd74196ed4bc6d977c78c7fdaabcab4b1ca1ac3332507", func := "loop.example/g01161/laws.FnExactSumsOfPair", spec := "fnExactSumsOfPair", recurses := true, apart := false }
def FnExactSumsOfPairSaid : Prop := fnExactSumsOfPairRow.holds Try.pinned (OpenSpec.ofChange fnExactSumsOfPairSpec)

/-- ITS FALSE NEIGHBOUR: 'it returns false'. Refute it at one input. -/
def fnExactSumsOfPairWrong : ChangeSpec := { name := "fnExactSumsOfPair", fn := fun _ => fun
  | [d] => { results := [.lit (.bool false)], args := [d] }
  | _ => none }
def FnExactSumsOfPairWrongFalsely : Prop := fnExactSumsOfPairRow.holds Try.pinned (OpenSpec.ofChange fnExactSumsOfPairWrong)

/-- 'laws.FnExactConjugateByWord': WHATEVER THE INPUT: true; the input reads as it did. -/
def fnExactConjugateByWordSpec : ChangeSpec := { name := "fnExactConjugateByWord", fn := fun _ => fun
  | [d1, d2] => { results := [.lit (.bool true)], args := [d1, d2] }
  | _ => none }
def fnExactConjugateByWordRow : OpenClaim := { program := "ytfkjjmmoipcddaa", sum := "9c5db63500d6a4d5b3bbd74196ed4bc6d977c78c7fdaabcab4b1ca1ac3332507", func := "loop.example/g01161/laws.FnExactConjugateByWord", spec := "fnExactConjugateByWord", unfollowed := true, recurses := true, apart := false }
def FnExactConjugateByWordSaid : Prop := fnExactConjugateByWordRow.holds Try.pinned (OpenSpec.ofChange fnExactConjugateByWordSpec)

/-- ITS FALSE NEIGHBOUR: 'it returns false'. Refute it at one input. -/
def fnExactConjugateByWordWrong : ChangeSpec := { name := "fnExactConjugateByWord", fn := fun _ => fun
  | [d1, d2] => { results := [.lit (.bool false)], args := [d1, d2] }
  | _ => none }
def FnExactConjugateByWordWrongFalsely : Prop := fnExactConjugateByWordRow.holds Try.pinned (OpenSpec.ofChange fnExactConjugateByWordWrong)

/-- 'laws.FnExactValueOf': WHATEVER THE INPUT: true; the input reads as it did. -/
def fnExactValueOfSpec : ChangeSpec := { name := "fnExactValueOf", fn := fun _ => fun
  | [d1, d2] => { results := [.lit (.bool true)], args := [d1, d2] }
  | _ => none }
def fnExactValueOfRow : OpenClaim := { program := "ytfkjjmmoipcddaa", sum := "9c5db63500d6a4d5b3bbd74196ed4bc6d977c78c7fdaabcab4b1ca1ac3332507", func := "loop.example/g01161/laws.FnExactValueOf", spec := "fnExactValueOf", recurses := true, apart := false }
def FnExactValueOfSaid : Prop := fnExactValueOfRow.holds Try.pinned (OpenSpec.ofChange fnExactValueOfSpec)

/-- ITS FALSE NEIGHBOUR: 'it returns false'. Refute it at one input. -/
def fnExactValueOfWrong : ChangeSpec := { name := "fnExactValueOf", fn := fun _ => fun
  | [d1, d2] => { results := [.lit (.bool false)], args := [d1, d2] }
  | _ => none }
def FnExactValueOfWrongFalsely : Prop := fnExactValueOfRow.holds Try.pinned (OpenSpec.ofChange fnExactValueOfWrong)

/-- 'laws.FnExactOrbitOf': WHATEVER THE INPUT: true; the input reads as it did. -/
def fnExactOrbitOfSpec : ChangeSpec := { name := "fnExactOrbitOf", fn := fun _ => fun
  | [d1, d2, d3] => { results := [.lit (.bool true)], args := [d1, d2, d3] }
  | _ => none }
def fnExactOrbitOfRow : OpenClaim := { program := "ytfkjjmmoipcddaa", sum := "9c5db63500d6a4d5b3bbd74196ed4bc6d977c78c7fdaabcab4b1ca1ac3332507", func := "loop.example/g01161/laws.FnExactOrbitOf", spec := "fnExactOrbitOf", recurses := true, apart := false }
def FnExactOrbitOfSaid : Prop := fnExactOrbitOfRow.holds Try.pinned (OpenSpec.ofChange fnExactOrbitOfSpec)

/-- ITS FALSE NEIGHBOUR: 'it returns false'. Refute it at one input. -/
def fnExactOrbitOfWrong : ChangeSpec := { name := "fnExactOrbitOf", fn := fun _ => fun
  | [d1, d2, d3] => { results := [.lit (.bool false)], args := [d1, d2, d3] }
  | _ => none }
def FnExactOrbitOfWrongFalsely : Prop := fnExactOrbitOfRow.holds Try.pinned (OpenSpec.ofChange fnExactOrbitOfWrong)

/-- 'laws.FnExactLeastConjugate': WHATEVER THE INPUT: true; the input reads as it did. -/
def fnExactLeastConjugateSpec : ChangeSpec := { name := "fnExactLeastConjugate", fn := fun _ => fun
  | [d1, d2] => { results := [.lit (.bool true)], args := [d1, d2] }
  | _ => none }
def fnExactLeastConjugateRow : OpenClaim := { program := "ytfkjjmmoipcddaa", sum := "9c5db63500d6a4d5b3bbd74196ed4bc6d977c78c7fdaabcab4b1ca1ac3332507", func := "loop.example/g01161/laws.FnExactLeastConjugate", spec := "fnExactLeastConjugate", unfollowed := true, recurses := true, apart := false }
def FnExactLeastConjugateSaid : Prop := fnExactLeastConjugateRow.holds Try.pinned (OpenSpec.ofChange fnExactLeastConjugateSpec)

/-- ITS FALSE NEIGHBOUR: 'it returns false'. Refute it at one input. -/
def fnExactLeastConjugateWrong : ChangeSpec := { name := "fnExactLeastConjugate", fn := fun _ => fun
  | [d1, d2] => { results := [.lit (.bool false)], args := [d1, d2] }
  | _ => none }
def FnExactLeastConjugateWrongFalsely : Prop := fnExactLeastConjugateRow.holds Try.pinned (OpenSpec.ofChange fnExactLeastConjugateWrong)

/- THE SECOND FORM. 'bulk': how many values and letters a reading holds, each counted each time it is reached (what is shared counts as often as it is met; a slice's spare places count too). A statement '..UptoSaid' is the law's where the arguments, and the package variables that the reading takes, are together of bulk at most 1048576: NARROWER than '..Said'. Prove '..Said' where nothing that the law and all that it calls make is longer than what came in: it says more and counts as full. Else prove '..UptoSaid'. A law counts once. -/
mutual
def uptoBulk {H : Type} : DataW H → Nat
  | .lit (.string bytes) => bytes.length + 1
  | .lit _ => 1
  | .nil => 1
  | .ptr d => uptoBulk d + 1
  | .slice elems spare => uptoBulkAll elems + uptoBulkAll spare + 1
  | .agg parts => uptoBulkAll parts + 1
  | .iface _ d => uptoBulk d + 1
  | .map entries => uptoBulkEntries entries + 1
  | .held _ => 1
def uptoBulkAll {H : Type} : List (DataW H) → Nat
  | [] => 0
  | d :: r => uptoBulk d + uptoBulkAll r
def uptoBulkEntries {H : Type} : List (Lit × DataW H) → Nat
  | [] => 0
  | x :: r => uptoBulkEntry x + uptoBulkEntries r
def uptoBulkEntry {H : Type} : Lit × DataW H → Nat
  | (.string bytes, d) => bytes.length + uptoBulk d + 1
  | (_, d) => uptoBulk d + 1
 end
def uptoSmall : (H : Type) → List (DataW H) → Bool := fun _ ds => decide (uptoBulkAll ds ≤ 1048576)
def OpenSpec.upto (s : _root_.Go.ChangeSpec) : _root_.Go.OpenSpec := { _root_.Go.OpenSpec.ofChange s with cond := some uptoSmall }

/-- 'laws.FnExactChainBetween', WHERE WHAT IT READS IS OF BULK AT MOST 1048576: true; the input reads as it did. -/
def fnExactChainBetweenUptoRow : OpenClaim := { program := "ytfkjjmmoipcddaa", sum := "9c5db63500d6a4d5b3bbd74196ed4bc6d977c78c7fdaabcab4b1ca1ac3332507", func := "loop.example/g01161/laws.FnExactChainBetween", spec := "fnExactChainBetween", recurses := true, apart := false, narrowed := true }
def FnExactChainBetweenUptoSaid : Prop := fnExactChainBetweenUptoRow.holds Try.pinned (OpenSpec.upto fnExactChainBetweenSpec)

/-- 'laws.FnExactRotationPair', WHERE WHAT IT READS IS OF BULK AT MOST 1048576: true; the input reads as it did. -/
def fnExactRotationPairUptoRow : OpenClaim := { program := "ytfkjjmmoipcddaa", sum := "9c5db63500d6a4d5b3bbd74196ed4bc6d977c78c7fdaabcab4b1ca1ac3332507", func := "loop.example/g01161/laws.FnExactRotationPair", spec := "fnExactRotationPair", recurses := true, apart := false, narrowed := true }
def FnExactRotationPairUptoSaid : Prop := fnExactRotationPairUptoRow.holds Try.pinned (OpenSpec.upto fnExactRotationPairSpec)

/-- 'laws.FnExactSplitHalves', WHERE WHAT IT READS IS OF BULK AT MOST 1048576: true; the input reads as it did. -/
def fnExactSplitHalvesUptoRow : OpenClaim := { program := "ytfkjjmmoipcddaa", sum := "9c5db63500d6a4d5b3bbd74196ed4bc6d977c78c7fdaabcab4b1ca1ac3332507", func := "loop.example/g01161/laws.FnExactSplitHalves", spec := "fnExactSplitHalves", recurses := true, apart := false, narrowed := true }
def FnExactSplitHalvesUptoSaid : Prop := fnExactSplitHalvesUptoRow.holds Try.pinned (OpenSpec.upto fnExactSplitHalvesSpec)

/-- 'laws.FnExactKeepsValues', WHERE WHAT IT READS IS OF BULK AT MOST 1048576: true; the input reads as it did. -/
def fnExactKeepsValuesUptoRow : OpenClaim := { program := "ytfkjjmmoipcddaa", sum := "9c5db63500d6a4d5b3bbd74196ed4bc6d977c78c7fdaabcab4b1ca1ac3332507", func := "loop.example/g01161/laws.FnExactKeepsValues", spec := "fnExactKeepsValues", recurses := true, apart := false, narrowed := true }
def FnExactKeepsValuesUptoSaid : Prop := fnExactKeepsValuesUptoRow.holds Try.pinned (OpenSpec.upto fnExactKeepsValuesSpec)

/-- 'laws.FnExactNeighboursOf', WHERE WHAT IT READS IS OF BULK AT MOST 1048576: true; the input reads as it did. -/
def fnExactNeighboursOfUptoRow : OpenClaim := { program := "ytfkjjmmoipcddaa", sum := "9c5db63500d6a4d5b3bbd74196ed4bc6d977c78c7fdaabcab4b1ca1ac3332507", func := "loop.example/g01161/laws.FnExactNeighboursOf", spec := "fnExactNeighboursOf", unfollowed := true, recurses := true, apart := false, narrowed := true }
def FnExactNeighboursOfUptoSaid : Prop := fnExactNeighboursOfUptoRow.holds Try.pinned (OpenSpec.upto fnExactNeighboursOfSpec)

/-- 'laws.FnExactRotationDistance', WHERE WHAT IT READS IS OF BULK AT MOST 1048576: true; the input reads as it did. -/
def fnExactRotationDistanceUptoRow : OpenClaim := { program := "ytfkjjmmoipcddaa", sum := "9c5db63500d6a4d5b3bbd74196ed4bc6d977c78c7fdaabcab4b1ca1ac3332507", func := "loop.example/g01161/laws.FnExactRotationDistance", spec := "fnExactRotationDistance", unfollowed := true, recurses := true, apart := false, narrowed := true }
def FnExactRotationDistanceUptoSaid : Prop := fnExactRotationDistanceUptoRow.holds Try.pinned (OpenSpec.upto fnExactRotationDistanceSpec)

/-- 'laws.FnExactConjugatePair', WHERE WHAT IT READS IS OF BULK AT MOST 1048576: true; the input reads as it did. -/
def fnExactConjugatePairUptoRow : OpenClaim := { program := "ytfkjjmmoipcddaa", sum := "9c5db63500d6a4d5b3bbd74196ed4bc6d977c78c7fdaabcab4b1ca1ac3332507", func := "loop.example/g01161/laws.FnExactConjugatePair", spec := "fnExactConjugatePair", unfollowed := true, recurses := true, apart := false, narrowed := true }
def FnExactConjugatePairUptoSaid : Prop := fnExactConjugatePairUptoRow.holds Try.pinned (OpenSpec.upto fnExactConjugatePairSpec)

/-- 'laws.FnExactSumsOfPair', WHERE WHAT IT READS IS OF BULK AT MOST 1048576: true; the input reads as it did. -/
def fnExactSumsOfPairUptoRow : OpenClaim := { program := "ytfkjjmmoipcddaa", sum := "9c5db63500d6a4d5b3bbd74196ed4bc6d977c78c7fdaabcab4b1ca1ac3332507", func := "loop.example/g01161/laws.FnExactSumsOfPair", spec := "fnExactSumsOfPair", recurses := true, apart := false, narrowed := true }
def FnExactSumsOfPairUptoSaid : Prop := fnExactSumsOfPairUptoRow.holds Try.pinned (OpenSpec.upto fnExactSumsOfPairSpec)

/-- 'laws.FnExactConjugateByWord', WHERE WHAT IT READS IS OF BULK AT MOST 1048576: true; the input reads as it did. -/
def fnExactConjugateByWordUptoRow : OpenClaim := { program := "ytfkjjmmoipcddaa", sum := "9c5db63500d6a4d5b3bbd74196ed4bc6d977c78c7fdaabcab4b1ca1ac3332507", func := "loop.example/g01161/laws.FnExactConjugateByWord", spec := "fnExactConjugateByWord", unfollowed := true, recurses := true, apart := false, narrowed := true }
def FnExactConjugateByWordUptoSaid : Prop := fnExactConjugateByWordUptoRow.holds Try.pinned (OpenSpec.upto fnExactConjugateByWordSpec)

/-- 'laws.FnExactValueOf', WHERE WHAT IT READS IS OF BULK AT MOST 1048576: true; the input reads as it did. -/
def fnExactValueOfUptoRow : OpenClaim := { program := "ytfkjjmmoipcddaa", sum := "9c5db63500d6a4d5b3bbd74196ed4bc6d977c78c7fdaabcab4b1ca1ac3332507", func := "loop.example/g01161/laws.FnExactValueOf", spec := "fnExactValueOf", recurses := true, apart := false, narrowed := true }
def FnExactValueOfUptoSaid : Prop := fnExactValueOfUptoRow.holds Try.pinned (OpenSpec.upto fnExactValueOfSpec)

/-- 'laws.FnExactOrbitOf', WHERE WHAT IT READS IS OF BULK AT MOST 1048576: true; the input reads as it did. -/
def fnExactOrbitOfUptoRow : OpenClaim := { program := "ytfkjjmmoipcddaa", sum := "9c5db63500d6a4d5b3bbd74196ed4bc6d977c78c7fdaabcab4b1ca1ac3332507", func := "loop.example/g01161/laws.FnExactOrbitOf", spec := "fnExactOrbitOf", recurses := true, apart := false, narrowed := true }
def FnExactOrbitOfUptoSaid : Prop := fnExactOrbitOfUptoRow.holds Try.pinned (OpenSpec.upto fnExactOrbitOfSpec)

/-- 'laws.FnExactLeastConjugate', WHERE WHAT IT READS IS OF BULK AT MOST 1048576: true; the input reads as it did. -/
def fnExactLeastConjugateUptoRow : OpenClaim := { program := "ytfkjjmmoipcddaa", sum := "9c5db63500d6a4d5b3bbd74196ed4bc6d977c78c7fdaabcab4b1ca1ac3332507", func := "loop.example/g01161/laws.FnExactLeastConjugate", spec := "fnExactLeastConjugate", unfollowed := true, recurses := true, apart := false, narrowed := true }
def FnExactLeastConjugateUptoSaid : Prop := fnExactLeastConjugateUptoRow.holds Try.pinned (OpenSpec.upto fnExactLeastConjugateSpec)

end Rows
end Go.Proofs.Ytfkjjmmoipcddaa
