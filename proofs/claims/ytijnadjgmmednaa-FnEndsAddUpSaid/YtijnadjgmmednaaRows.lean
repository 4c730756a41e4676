/-
  No cell of these rows narrows 'for every input' (looked for: loops, veiled, ifaces, maps, wideKeys, modest, calm, conditions, laid).
  DERIVED. THE GIVEN ROWS OF THIS SEAT. 5 by the template 'for every input the law returns true; each argument reads behind the call as it read before'; 0 by the template 'total and deterministic' (their statements: YtijnadjgmmednaaTotals.lean).
  GIVEN WITH THE SEED: the statements are not yours to turn. If you find one false, say at which input.
  Laid BY PROGRAM, IN A SANDBOX (cutbox-rows.mjs): the forced cells as the released guide's own fill.sh prints them over the translation 9837b9230cc82ede… (all of the seat's roots in one cut). By AI agents, Wed Nov 11 2026. No macro, syntax, notation, axiom, sorry.
-/
import Derived.Test.YtijnadjgmmednaaChecked
import GoSem.Claim
import GoSem.ClaimJoined
import GoSem.ClaimMapViews
import Derived.JoinedTies
import Derived.KernelRfl
namespace Go.Proofs.Ytijnadjgmmednaa
/- THE CELL 'sum', in the pinned program and in every row, IS THE sha256 OF THE DUMP (.gsa) THAT YtijnadjgmmednaaProg.lean LOADS. Nothing in Lean hashes anything: it is a label: what it is worth is what the hold of that sum in a sandbox is worth. -/
noncomputable def Try.pinned : Pinned := { name := "ytijnadjgmmednaa", sum := "9837b9230cc82ede4c9f2b00311e03aa865e147a0b67528850302deae5bdd205", checked := Try.checked }
namespace Rows
def none {H : Type} : Left H := { results := [], args := [] }

/-- 'laws.FnEndsAddUp': WHATEVER THE INPUT: true; the input reads as it did. -/
def fnEndsAddUpSpec : ChangeSpec := { name := "fnEndsAddUp", fn := fun _ => fun
  | [d1, d2] => { results := [.lit (.bool true)], args := [d1, d2] }
  | _ => none }
def fnEndsAddUpRow : OpenClaim := { program := "ytijnadjgmmednaa", sum := "9837b9230cc82ede4c9f2b00311e03aa865e147a0b67528850302deae5bdd205", func := "loop.example/g01161/laws.FnEndsAddUp", spec := "fnEndsAddUp", unfollowed := true, recurses := true, apart := false }
def FnEndsAddUpSaid : Prop := fnEndsAddUpRow.holds Try.pinned (OpenSpec.ofChange fnEndsAddUpSpec)

/-- ITS FALSE NEIGHBOUR: 'it returns false'. Refute it at one input. -/
def fnEndsAddUpWrong : ChangeSpec := { name := "fnEndsAddUp", fn := fun _ => fun
  | [d1, d2] => { results := [.lit (.bool false)], args := [d1, d2] }
  | _ => none }
def FnEndsAddUpWrongFalsely : Prop := fnEndsAddUpRow.holds Try.pinned (OpenSpec.ofChange fnEndsAddUpWrong)

/-- 'laws.FnCarriersCarry': WHATEVER THE INPUT: true; the input reads as it did. -/
def fnCarriersCarrySpec : ChangeSpec := { name := "fnCarriersCarry", fn := fun _ => fun
  | [d1, d2] => { results := [.lit (.bool true)], args := [d1, d2] }
  | _ => none }
def fnCarriersCarryRow : OpenClaim := { program := "ytijnadjgmmednaa", sum := "9837b9230cc82ede4c9f2b00311e03aa865e147a0b67528850302deae5bdd205", func := "loop.example/g01161/laws.FnCarriersCarry", spec := "fnCarriersCarry", unfollowed := true, recurses := true, apart := false }
def FnCarriersCarrySaid : Prop := fnCarriersCarryRow.holds Try.pinned (OpenSpec.ofChange fnCarriersCarrySpec)

/-- ITS FALSE NEIGHBOUR: 'it returns false'. Refute it at one input. -/
def fnCarriersCarryWrong : ChangeSpec := { name := "fnCarriersCarry", fn := fun _ => fun
  | [d1, d2] => { results := [.lit (.bool false)], args := [d1, d2] }
  | _ => none }
def FnCarriersCarryWrongFalsely : Prop := fnCarriersCarryRow.holds Try.pinned (OpenSpec.ofChange fnCarriersCarryWrong)

/-- 'laws.FnRotationDistance': WHATEVER THE INPUT: true; the input reads as it did. -/
def fnRotationDistanceSpec : ChangeSpec := { name := "fnRotationDistance", fn := fun _ => fun
  | [d1, d2] => { results := [.lit (.bool true)], args := [d1, d2] }
  | _ => none }
def fnRotationDistanceRow : OpenClaim := { program := "ytijnadjgmmednaa", sum := "9837b9230cc82ede4c9f2b00311e03aa865e147a0b67528850302deae5bdd205", func := "loop.example/g01161/laws.FnRotationDistance", spec := "fnRotationDistance", unfollowed := true, recurses := true, apart := false }
def FnRotationDistanceSaid : Prop := fnRotationDistanceRow.holds Try.pinned (OpenSpec.ofChange fnRotationDistanceSpec)

/-- ITS FALSE NEIGHBOUR: 'it returns false'. Refute it at one input. -/
def fnRotationDistanceWrong : ChangeSpec := { name := "fnRotationDistance", fn := fun _ => fun
  | [d1, d2] => { results := [.lit (.bool false)], args := [d1, d2] }
  | _ => none }
def FnRotationDistanceWrongFalsely : Prop := fnRotationDistanceRow.holds Try.pinned (OpenSpec.ofChange fnRotationDistanceWrong)

/-- 'laws.FnExactRotationDistance': WHATEVER THE INPUT: true; the input reads as it did. -/
def fnExactRotationDistanceSpec : ChangeSpec := { name := "fnExactRotationDistance", fn := fun _ => fun
  | [d1, d2] => { results := [.lit (.bool true)], args := [d1, d2] }
  | _ => none }
def fnExactRotationDistanceRow : OpenClaim := { program := "ytijnadjgmmednaa", sum := "9837b9230cc82ede4c9f2b00311e03aa865e147a0b67528850302deae5bdd205", func := "loop.example/g01161/laws.FnExactRotationDistance", spec := "fnExactRotationDistance", unfollowed := true, recurses := true, apart := false }
def FnExactRotationDistanceSaid : Prop := fnExactRotationDistanceRow.holds Try.pinned (OpenSpec.ofChange fnExactRotationDistanceSpec)

/-- ITS FALSE NEIGHBOUR: 'it returns false'. Refute it at one input. -/
def fnExactRotationDistanceWrong : ChangeSpec := { name := "fnExactRotationDistance", fn := fun _ => fun
  | [d1, d2] => { results := [.lit (.bool false)], args := [d1, d2] }
  | _ => none }
def FnExactRotationDistanceWrongFalsely : Prop := fnExactRotationDistanceRow.holds Try.pinned (OpenSpec.ofChange fnExactRotationDistanceWrong)

/-- 'laws.FnGeneratorsRelate': WHATEVER THE INPUT: true; the input reads as it did. -/
def fnGeneratorsRelateSpec : ChangeSpec := { name := "fnGeneratorsRelate", fn := fun _ => fun
  | [d1, d2] => { results := [.lit (.bool true)], args := [d1, d2] }
  | _ => none }
def fnGeneratorsRelateRow : OpenClaim := { program := "ytijnadjgmmednaa", sum := "9837b9230cc82ede4c9f2b00311e03aa865e147a0b67528850302deae5bdd205", func := "loop.example/g01161/laws.FnGeneratorsRelate", spec := "fnGeneratorsRelate", inPlace := ["internal/bytealg.abigen_runtime_cmpstring"], unfollowed := true, recurses := true, apart := false }
def FnGeneratorsRelateSaid : Prop := fnGeneratorsRelateRow.holds Try.pinned (OpenSpec.ofChange fnGeneratorsRelateSpec)

/-- ITS FALSE NEIGHBOUR: 'it returns false'. Refute it at one input. -/
def fnGeneratorsRelateWrong : ChangeSpec := { name := "fnGeneratorsRelate", fn := fun _ => fun
  | [d1, d2] => { results := [.lit (.bool false)], args := [d1, d2] }
  | _ => none }
def FnGeneratorsRelateWrongFalsely : Prop := fnGeneratorsRelateRow.holds Try.pinned (OpenSpec.ofChange fnGeneratorsRelateWrong)

/- THE SECOND FORM. 'bulk': how many values and letters a reading holds, each counted each time it is reached (what is shared counts as often as it is met; a slice's spare places count too). A statement '..UptoSaid' is the law's where the arguments, and the package variables that the reading takes, are together of bulk at most 1048576: NARROWER than '..Said'. Prove '..Said' where nothing that the law and all that it calls make is longer than what came in: it says more and counts as full. Else prove '..UptoSaid'. A law counts once. -/
mutual
def uptoBulk {H : Type} : DataW H → Nat
  | .lit (.string bytes) => bytes.length + 1
  | .lit _ => 1
  | .nil => 1
  | .ptr d => uptoBulk d + 1
  | .slice elems spare => uptoBulkAll elems + uptoBulkAll spare + 1
  | .agg parts => uptoBulkAll parts + 1
  | .iface _ d => uptoBulk d + 1
  | .map entries => uptoBulkEntries entries + 1
  | .held _ => 1
def uptoBulkAll {H : Type} : List (DataW H) → Nat
  | [] => 0
  | d :: r => uptoBulk d + uptoBulkAll r
def uptoBulkEntries {H : Type} : List (Lit × DataW H) → Nat
  | [] => 0
  | x :: r => uptoBulkEntry x + uptoBulkEntries r
def uptoBulkEntry {H : Type} : Lit × DataW H → Nat
  | (.string bytes, d) => bytes.length + uptoBulk d + 1
  | (_, d) => uptoBulk d + 1
 end
def uptoSmall : (H : Type) → List (DataW H) → Bool := fun _ ds => decide (uptoBulkAll ds ≤ 1048576)
def OpenSpec.upto (s : _root_.Go.ChangeSpec) : _root_.Go.OpenSpec := { _root_.Go.OpenSpec.ofChange s with cond := some uptoSmall }

/-- 'laws.FnEndsAddUp', WHERE WHAT IT READS IS OF BULK AT MOST 1048576: true; the input reads as it did. -/
def fnEndsAddUpUptoRow : OpenClaim := { program := "ytijnadjgmmednaa", sum := "9837b9230cc82ede4c9f2b00311e03aa865e147a0b67528850302deae5bdd205", func := "loop.example/g01161/laws.FnEndsAddUp", spec := "fnEndsAddUp", unfollowed := true, recurses := true, apart := false, narrowed := true }
def FnEndsAddUpUptoSaid : Prop := fnEndsAddUpUptoRow.holds Try.pinned (OpenSpec.upto fnEndsAddUpSpec)

/-- 'laws.FnCarriersCarry', WHERE WHAT IT READS IS OF BULK AT MOST 1048576: true; the input reads as it did. -/
def fnCarriersCarryUptoRow : OpenClaim := { program := "ytijnadjgmmednaa", sum := "9837b9230cc82ede4c9f2b00311e03aa865e147a0b67528850302deae5bdd205", func := "loop.example/g01161/laws.FnCarriersCarry", spec := "fnCarriersCarry", unfollowed := true, recurses := true, apart := false, narrowed := true }
def FnCarriersCarryUptoSaid : Prop := fnCarriersCarryUptoRow.holds Try.pinned (OpenSpec.upto fnCarriersCarrySpec)

/-- 'laws.FnRotationDistance', WHERE WHAT IT READS IS OF BULK AT MOST 1048576: true; the input reads as it did. -/
def fnRotationDistanceUptoRow : OpenClaim := { program := "ytijnadjgmmednaa", sum := "9837b9230cc82ede4c9f2b00311e03aa865e147a0b67528850302deae5bdd205", func := "loop.example/g01161/laws.FnRotationDistance", spec := "fnRotationDistance", unfollowed := true, recurses := true, apart := false, narrowed := true }
def FnRotationDistanceUptoSaid : Prop := fnRotationDistanceUptoRow.holds Try.pinned (OpenSpec.upto fnRotationDistanceSpec)

/-- 'laws.FnExactRotationDistance', WHERE WHAT IT READS IS OF BULK AT MOST 1048576: true; the input reads as it did. -/
def fnExactRotationDistanceUptoRow : OpenClaim := { program := "ytijnadjgmmednaa", sum := "9837b9230cc82ede4c9f2b00311e03aa865e147a0b67528850302deae5bdd205", func := "loop.example/g01161/laws.FnExactRotationDistance", spec := "fnExactRotationDistance", unfollowed := true, recurses := true, apart := false, narrowed := true }
def FnExactRotationDistanceUptoSaid : Prop := fnExactRotationDistanceUptoRow.holds Try.pinned (OpenSpec.upto fnExactRotationDistanceSpec)

/-- 'laws.FnGeneratorsRelate', WHERE WHAT IT READS IS OF BULK AT MOST 1048576: true; the input reads as it did. -/
def fnGeneratorsRelateUptoRow : OpenClaim := { program := "ytijnadjgmmednaa", sum := "9837b9230cc82ede4c9f2b00311e03aa865e147a0b67528850302deae5bdd205", func := "loop.example/g01161/laws.FnGeneratorsRelate", spec := "fnGeneratorsRelate", inPlace := ["internal/bytealg.abigen_runtime_cmpstring"], unfollowed := true, recurses := true, apart := false, narrowed := true }
def FnGeneratorsRelateUptoSaid : Prop := fnGeneratorsRelateUptoRow.holds Try.pinned (OpenSpec.upto fnGeneratorsRelateSpec)

end Rows
end Go.Proofs.Ytijnadjgmmednaa
