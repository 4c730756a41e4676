/-
  No cell of these rows narrows 'for every input' (looked for: loops, veiled, ifaces, maps, wideKeys, modest, calm, conditions, laid).
  DERIVED. THE GIVEN ROWS OF THIS SEAT. 7 by the template 'for every input the law returns true; each argument reads behind the call as it read before'; 0 by the template 'total and deterministic' (their statements: YtfjhecilkeikiaaTotals.lean).
  GIVEN WITH THE SEED: the statements are not yours to turn. If you find one false, say at which input.
  Laid BY PROGRAM, IN A SANDBOX (cutbox-rows.mjs): the forced cells as the released guide's own fill.sh prints them over the translation 09272e8c829bee14… (all of the seat's roots in one cut). By AI agents, Wed Nov 11 2026. No macro, syntax, notation, axiom, sorry.
-/
import Derived.Test.YtfjhecilkeikiaaChecked
import GoSem.Claim
import GoSem.ClaimJoined
import GoSem.ClaimMapViews
import Derived.JoinedTies
import Derived.KernelRfl
namespace Go.Proofs.Ytfjhecilkeikiaa
/- THE CELL 'sum', in the pinned program and in every row, IS THE sha256 OF THE DUMP (.gsa) THAT YtfjhecilkeikiaaProg.lean LOADS. Nothing in Lean hashes anything: it is a label: what it is worth is what the hold of that sum in a sandbox is worth. -/
noncomputable def Try.pinned : Pinned := { name := "ytfjhecilkeikiaa", sum := "09272e8c829bee141d6dc9e6acdb175f46fbf147c28b26a22e1af9b55882c34b", checked := Try.checked }
namespace Rows
def none {H : Type} : Left H := { results := [], args := [] }

/-- 'laws.FnExactFindConjugator': WHATEVER THE INPUT: true; the input reads as it did. -/
def fnExactFindConjugatorSpec : ChangeSpec := { name := "fnExactFindConjugator", fn := fun _ => fun
  | [d1, d2, d3] => { results := [.lit (.bool true)], args := [d1, d2, d3] }
  | _ => none }
def fnExactFindConjugatorRow : OpenClaim := { program := "ytfjhecilkeikiaa", sum := "09272e8c829bee141d6dc9e6acdb175f46fbf147c28b26a22e1af9b55882c34b", func := "loop.example/g01161/laws.FnExactFindConjugator", spec := "fnExactFindConjugator", unfollowed := true, recurses := true, apart := false }
def FnExactFindConjugatorSaid : Prop := fnExactFindConjugatorRow.holds Try.pinned (OpenSpec.ofChange fnExactFindConjugatorSpec)

/-- ITS FALSE NEIGHBOUR: 'it returns false'. Refute it at one input. -/
def fnExactFindConjugatorWrong : ChangeSpec := { name := "fnExactFindConjugator", fn := fun _ => fun
  | [d1, d2, d3] => { results := [.lit (.bool false)], args := [d1, d2, d3] }
  | _ => none }
def FnExactFindConjugatorWrongFalsely : Prop := fnExactFindConjugatorRow.holds Try.pinned (OpenSpec.ofChange fnExactFindConjugatorWrong)

/-- 'laws.FnExactAreConjugateWithin': WHATEVER THE INPUT: true; the input reads as it did. -/
def fnExactAreConjugateWithinSpec : ChangeSpec := { name := "fnExactAreConjugateWithin", fn := fun _ => fun
  | [d1, d2, d3] => { results := [.lit (.bool true)], args := [d1, d2, d3] }
  | _ => none }
def fnExactAreConjugateWithinRow : OpenClaim := { program := "ytfjhecilkeikiaa", sum := "09272e8c829bee141d6dc9e6acdb175f46fbf147c28b26a22e1af9b55882c34b", func := "loop.example/g01161/laws.FnExactAreConjugateWithin", spec := "fnExactAreConjugateWithin", unfollowed := true, recurses := true, apart := false }
def FnExactAreConjugateWithinSaid : Prop := fnExactAreConjugateWithinRow.holds Try.pinned (OpenSpec.ofChange fnExactAreConjugateWithinSpec)

/-- ITS FALSE NEIGHBOUR: 'it returns false'. Refute it at one input. -/
def fnExactAreConjugateWithinWrong : ChangeSpec := { name := "fnExactAreConjugateWithin", fn := fun _ => fun
  | [d1, d2, d3] => { results := [.lit (.bool false)], args := [d1, d2, d3] }
  | _ => none }
def FnExactAreConjugateWithinWrongFalsely : Prop := fnExactAreConjugateWithinRow.holds Try.pinned (OpenSpec.ofChange fnExactAreConjugateWithinWrong)

/-- 'laws.FnExactCountReduced': WHATEVER THE INPUT: true; the input reads as it did. -/
def fnExactCountReducedSpec : ChangeSpec := { name := "fnExactCountReduced", fn := fun _ => fun
  | [d] => { results := [.lit (.bool true)], args := [d] }
  | _ => none }
def fnExactCountReducedRow : OpenClaim := { program := "ytfjhecilkeikiaa", sum := "09272e8c829bee141d6dc9e6acdb175f46fbf147c28b26a22e1af9b55882c34b", func := "loop.example/g01161/laws.FnExactCountReduced", spec := "fnExactCountReduced", inPlace := ["internal/bytealg.abigen_runtime_cmpstring"], unfollowed := true, recurses := true, apart := false }
def FnExactCountReducedSaid : Prop := fnExactCountReducedRow.holds Try.pinned (OpenSpec.ofChange fnExactCountReducedSpec)

/-- ITS FALSE NEIGHBOUR: 'it returns false'. Refute it at one input. -/
def fnExactCountReducedWrong : ChangeSpec := { name := "fnExactCountReduced", fn := fun _ => fun
  | [d] => { results := [.lit (.bool false)], args := [d] }
  | _ => none }
def FnExactCountReducedWrongFalsely : Prop := fnExactCountReducedRow.holds Try.pinned (OpenSpec.ofChange fnExactCountReducedWrong)

/-- 'laws.FnExactSmallPairs': WHATEVER THE INPUT: true; the input reads as it did. -/
def fnExactSmallPairsSpec : ChangeSpec := { name := "fnExactSmallPairs", fn := fun _ => fun
  | [d] => { results := [.lit (.bool true)], args := [d] }
  | _ => none }
def fnExactSmallPairsRow : OpenClaim := { program := "ytfjhecilkeikiaa", sum := "09272e8c829bee141d6dc9e6acdb175f46fbf147c28b26a22e1af9b55882c34b", func := "loop.example/g01161/laws.FnExactSmallPairs", spec := "fnExactSmallPairs", inPlace := ["internal/bytealg.abigen_runtime_cmpstring"], unfollowed := true, recurses := true, apart := false }
def FnExactSmallPairsSaid : Prop := fnExactSmallPairsRow.holds Try.pinned (OpenSpec.ofChange fnExactSmallPairsSpec)

/-- ITS FALSE NEIGHBOUR: 'it returns false'. Refute it at one input. -/
def fnExactSmallPairsWrong : ChangeSpec := { name := "fnExactSmallPairs", fn := fun _ => fun
  | [d] => { results := [.lit (.bool false)], args := [d] }
  | _ => none }
def FnExactSmallPairsWrongFalsely : Prop := fnExactSmallPairsRow.holds Try.pinned (OpenSpec.ofChange fnExactSmallPairsWrong)

/-- 'laws.FnExactCommutingWith': WHATEVER THE INPUT: true; the input reads as it did. -/
def fnExactCommutingWithSpec : ChangeSpec := { name := "fnExactCommutingWith", fn := fun _ => fun
  | [d1, d2] => { results := [.lit (.bool true)], args := [d1, d2] }
  | _ => none }
def fnExactCommutingWithRow : OpenClaim := { program := "ytfjhecilkeikiaa", sum := "09272e8c829bee141d6dc9e6acdb175f46fbf147c28b26a22e1af9b55882c34b", func := "loop.example/g01161/laws.FnExactCommutingWith", spec := "fnExactCommutingWith", inPlace := ["internal/bytealg.abigen_runtime_cmpstring"], unfollowed := true, recurses := true, apart := false }
def FnExactCommutingWithSaid : Prop := fnExactCommutingWithRow.holds Try.pinned (OpenSpec.ofChange fnExactCommutingWithSpec)

/-- ITS FALSE NEIGHBOUR: 'it returns false'. Refute it at one input. -/
def fnExactCommutingWithWrong : ChangeSpec := { name := "fnExactCommutingWith", fn := fun _ => fun
  | [d1, d2] => { results := [.lit (.bool false)], args := [d1, d2] }
  | _ => none }
def FnExactCommutingWithWrongFalsely : Prop := fnExactCommutingWithRow.holds Try.pinned (OpenSpec.ofChange fnExactCommutingWithWrong)

/-- 'laws.FnExactRootsOf': WHATEVER THE INPUT: true; the input reads as it did. -/
def fnExactRootsOfSpec : ChangeSpec := { name := "fnExactRootsOf", fn := fun _ => fun
  | [d1, d2] => { results := [.lit (.bool true)], args := [d1, d2] }
  | _ => none }
def fnExactRootsOfRow : OpenClaim := { program := "ytfjhecilkeikiaa", sum := "09272e8c829bee141d6dc9e6acdb175f46fbf147c28b26a22e1af9b55882c34b", func := "loop.example/g01161/laws.FnExactRootsOf", spec := "fnExactRootsOf", inPlace := ["internal/bytealg.abigen_runtime_cmpstring"], unfollowed := true, recurses := true, apart := false }
def FnExactRootsOfSaid : Prop := fnExactRootsOfRow.holds Try.pinned (OpenSpec.ofChange fnExactRootsOfSpec)

/-- ITS FALSE NEIGHBOUR: 'it returns false'. Refute it at one input. -/
def fnExactRootsOfWrong : ChangeSpec := { name := "fnExactRootsOf", fn := fun _ => fun
  | [d1, d2] => { results := [.lit (.bool false)], args := [d1, d2] }
  | _ => none }
def FnExactRootsOfWrongFalsely : Prop := fnExactRootsOfRow.holds Try.pinned (OpenSpec.ofChange fnExactRootsOfWrong)

/-- 'laws.FnExactSpherePairs': WHATEVER THE INPUT: true; the input reads as it did. -/
def fnExactSpherePairsSpec : ChangeSpec := { name := "fnExactSpherePairs", fn := fun _ => fun
  | [d] => { results := [.lit (.bool true)], args := [d] }
  | _ => none }
def fnExactSpherePairsRow : OpenClaim := { program := "ytfjhecilkeikiaa", sum := "09272e8c829bee141d6dc9e6acdb175f46fbf147c28b26a22e1af9b55882c34b", func := "loop.example/g01161/laws.FnExactSpherePairs", spec := "fnExactSpherePairs", unfollowed := true, recurses := true, apart := false }
def FnExactSpherePairsSaid : Prop := fnExactSpherePairsRow.holds Try.pinned (OpenSpec.ofChange fnExactSpherePairsSpec)

/-- ITS FALSE NEIGHBOUR: 'it returns false'. Refute it at one input. -/
def fnExactSpherePairsWrong : ChangeSpec := { name := "fnExactSpherePairs", fn := fun _ => fun
  | [d] => { results := [.lit (.bool false)], args := [d] }
  | _ => none }
def FnExactSpherePairsWrongFalsely : Prop := fnExactSpherePairsRow.holds Try.pinned (OpenSpec.ofChange fnExactSpherePairsWrong)

/- THE SECOND FORM. 'bulk': how many values and letters a reading holds, each counted each time it is reached (what is shared counts as often as it is met; a slice's spare places count too). A statement '..UptoSaid' is the law's where the arguments, and the package variables that the reading takes, are together of bulk at most 1048576: NARROWER than '..Said'. Prove '..Said' where nothing that the law and all that it calls make is longer than what came in: it says more and counts as full. Else prove '..UptoSaid'. A law counts once. -/
mutual
def uptoBulk {H : Type} : DataW H → Nat
  | .lit (.string bytes) => bytes.length + 1
  | .lit _ => 1
  | .nil => 1
  | .ptr d => uptoBulk d + 1
  | .slice elems spare => uptoBulkAll elems + uptoBulkAll spare + 1
  | .agg parts => uptoBulkAll parts + 1
  | .iface _ d => uptoBulk d + 1
  | .map entries => uptoBulkEntries entries + 1
  | .held _ => 1
def uptoBulkAll {H : Type} : List (DataW H) → Nat
  | [] => 0
  | d :: r => uptoBulk d + uptoBulkAll r
def uptoBulkEntries {H : Type} : List (Lit × DataW H) → Nat
  | [] => 0
  | x :: r => uptoBulkEntry x + uptoBulkEntries r
def uptoBulkEntry {H : Type} : Lit × DataW H → Nat
  | (.string bytes, d) => bytes.length + uptoBulk d + 1
  | (_, d) => uptoBulk d + 1
 end
def uptoSmall : (H : Type) → List (DataW H) → Bool := fun _ ds => decide (uptoBulkAll ds ≤ 1048576)
def OpenSpec.upto (s : _root_.Go.ChangeSpec) : _root_.Go.OpenSpec := { _root_.Go.OpenSpec.ofChange s with cond := some uptoSmall }

/-- 'laws.FnExactFindConjugator', WHERE WHAT IT READS IS OF BULK AT MOST 1048576: true; the input reads as it did. -/
def fnExactFindConjugatorUptoRow : OpenClaim := { program := "ytfjhecilkeikiaa", sum := "09272e8c829bee141d6dc9e6acdb175f46fbf147c28b26a22e1af9b55882c34b", func := "loop.example/g01161/laws.FnExactFindConjugator", spec := "fnExactFindConjugator", unfollowed := true, recurses := true, apart := false, narrowed := true }
def FnExactFindConjugatorUptoSaid : Prop := fnExactFindConjugatorUptoRow.holds Try.pinned (OpenSpec.upto fnExactFindConjugatorSpec)

/-- 'laws.FnExactAreConjugateWithin', WHERE WHAT IT READS IS OF BULK AT MOST 1048576: true; the input reads as it did. -/
def fnExactAreConjugateWithinUptoRow : OpenClaim := { program := "ytfjhecilkeikiaa", sum := "09272e8c829bee141d6dc9e6acdb175f46fbf147c28b26a22e1af9b55882c34b", func := "loop.example/g01161/laws.FnExactAreConjugateWithin", spec := "fnExactAreConjugateWithin", unfollowed := true, recurses := true, apart := false, narrowed := true }
def FnExactAreConjugateWithinUptoSaid : Prop := fnExactAreConjugateWithinUptoRow.holds Try.pinned (OpenSpec.upto fnExactAreConjugateWithinSpec)

/-- 'laws.FnExactCountReduced', WHERE WHAT IT READS IS OF BULK AT MOST 1048576: true; the input reads as it did. -/
def fnExactCountReducedUptoRow : OpenClaim := { program := "ytfjhecilkeikiaa", sum := "09272e8c829bee141d6dc9e6acdb175f46fbf147c28b26a22e1af9b55882c34b", func := "loop.example/g01161/laws.FnExactCountReduced", spec := "fnExactCountReduced", inPlace := ["internal/bytealg.abigen_runtime_cmpstring"], unfollowed := true, recurses := true, apart := false, narrowed := true }
def FnExactCountReducedUptoSaid : Prop := fnExactCountReducedUptoRow.holds Try.pinned (OpenSpec.upto fnExactCountReducedSpec)

/-- 'laws.FnExactSmallPairs', WHERE WHAT IT READS IS OF BULK AT MOST 1048576: true; the input reads as it did. -/
def fnExactSmallPairsUptoRow : OpenClaim := { program := "ytfjhecilkeikiaa", sum := "09272e8c829bee141d6dc9e6acdb175f46fbf147c28b26a22e1af9b55882c34b", func := "loop.example/g01161/laws.FnExactSmallPairs", spec := "fnExactSmallPairs", inPlace := ["internal/bytealg.abigen_runtime_cmpstring"], unfollowed := true, recurses := true, apart := false, narrowed := true }
def FnExactSmallPairsUptoSaid : Prop := fnExactSmallPairsUptoRow.holds Try.pinned (OpenSpec.upto fnExactSmallPairsSpec)

/-- 'laws.FnExactCommutingWith', WHERE WHAT IT READS IS OF BULK AT MOST 1048576: true; the input reads as it did. -/
def fnExactCommutingWithUptoRow : OpenClaim := { program := "ytfjhecilkeikiaa", sum := "09272e8c829bee141d6dc9e6acdb175f46fbf147c28b26a22e1af9b55882c34b", func := "loop.example/g01161/laws.FnExactCommutingWith", spec := "fnExactCommutingWith", inPlace := ["internal/bytealg.abigen_runtime_cmpstring"], unfollowed := true, recurses := true, apart := false, narrowed := true }
def FnExactCommutingWithUptoSaid : Prop := fnExactCommutingWithUptoRow.holds Try.pinned (OpenSpec.upto fnExactCommutingWithSpec)

/-- 'laws.FnExactRootsOf', WHERE WHAT IT READS IS OF BULK AT MOST 1048576: true; the input reads as it did. -/
def fnExactRootsOfUptoRow : OpenClaim := { program := "ytfjhecilkeikiaa", sum := "09272e8c829bee141d6dc9e6acdb175f46fbf147c28b26a22e1af9b55882c34b", func := "loop.example/g01161/laws.FnExactRootsOf", spec := "fnExactRootsOf", inPlace := ["internal/bytealg.abigen_runtime_cmpstring"], unfollowed := true, recurses := true, apart := false, narrowed := true }
def FnExactRootsOfUptoSaid : Prop := fnExactRootsOfUptoRow.holds Try.pinned (OpenSpec.upto fnExactRootsOfSpec)

/-- 'laws.FnExactSpherePairs', WHERE WHAT IT READS IS OF BULK AT MOST 1048576: true; the input reads as it did. -/
def fnExactSpherePairsUptoRow : OpenClaim := { program := "ytfjhecilkeikiaa", sum := "09272e8c829bee141d6dc9e6acdb175f46fbf147c28b26a22e1af9b55882c34b", func := "loop.example/g01161/laws.FnExactSpherePairs", spec := "fnExactSpherePairs", unfollowed := true, recurses := true, apart := false, narrowed := true }
def FnExactSpherePairsUptoSaid : Prop := fnExactSpherePairsUptoRow.holds Try.pinned (OpenSpec.upto fnExactSpherePairsSpec)

end Rows
end Go.Proofs.Ytfjhecilkeikiaa
