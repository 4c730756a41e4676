/-
  No cell of these rows narrows 'for every input' (looked for: loops, veiled, ifaces, maps, wideKeys, modest, calm, conditions, laid).
  DERIVED. THE GIVEN ROWS OF THIS SEAT. 6 by the template 'for every input the law returns true; each argument reads behind the call as it read before'; 0 by the template 'total and deterministic' (their statements: YtpmmajfdcicjiaaTotals.lean).
  GIVEN WITH THE SEED: the statements are not yours to turn. If you find one false, say at which input.
  Laid BY PROGRAM, IN A SANDBOX (cutbox-rows.mjs): the forced cells as the released guide's own fill.sh prints them over the translation bafd871b371a6c8a… (all of the seat's roots in one cut). By AI agents, Wed Nov 11 2026. No macro, syntax, notation, axiom, sorry.
-/
import Derived.Test.YtpmmajfdcicjiaaChecked
import GoSem.Claim
import GoSem.ClaimJoined
import GoSem.ClaimMapViews
import Derived.JoinedTies
import Derived.KernelRfl
namespace Go.Proofs.Ytpmmajfdcicjiaa
/- THE CELL 'sum', in the pinned program and in every row, IS THE sha256 OF THE DUMP (.gsa) THAT YtpmmajfdcicjiaaProg.lean LOADS. Nothing in Lean hashes anything: it is a label: what it is worth is what the hold of that sum in a sandbox is worth. -/
noncomputable def Try.pinned : Pinned := { name := "ytpmmajfdcicjiaa", sum := "bafd871b371a6c8afb18680cd372dcbda5953e0066bafe7634020632eea7b8fb", checked := Try.checked }
namespace Rows
def none {H : Type} : Left H := { results := [], args := [] }

/-- 'laws.FnTablesKeepValues': WHATEVER THE INPUT: true; the input reads as it did. -/
def fnTablesKeepValuesSpec : ChangeSpec := { name := "fnTablesKeepValues", fn := fun _ => fun
  | [d1, d2] => { results := [.lit (.bool true)], args := [d1, d2] }
  | _ => none }
def fnTablesKeepValuesRow : OpenClaim := { program := "ytpmmajfdcicjiaa", sum := "bafd871b371a6c8afb18680cd372dcbda5953e0066bafe7634020632eea7b8fb", func := "loop.example/g01161/laws.FnTablesKeepValues", spec := "fnTablesKeepValues", unfollowed := true, recurses := true, apart := false }
def FnTablesKeepValuesSaid : Prop := fnTablesKeepValuesRow.holds Try.pinned (OpenSpec.ofChange fnTablesKeepValuesSpec)

/-- ITS FALSE NEIGHBOUR: 'it returns false'. Refute it at one input. -/
def fnTablesKeepValuesWrong : ChangeSpec := { name := "fnTablesKeepValues", fn := fun _ => fun
  | [d1, d2] => { results := [.lit (.bool false)], args := [d1, d2] }
  | _ => none }
def FnTablesKeepValuesWrongFalsely : Prop := fnTablesKeepValuesRow.holds Try.pinned (OpenSpec.ofChange fnTablesKeepValuesWrong)

/-- 'laws.FnExactRotationDistance': WHATEVER THE INPUT: true; the input reads as it did. -/
def fnExactRotationDistanceSpec : ChangeSpec := { name := "fnExactRotationDistance", fn := fun _ => fun
  | [d1, d2] => { results := [.lit (.bool true)], args := [d1, d2] }
  | _ => none }
def fnExactRotationDistanceRow : OpenClaim := { program := "ytpmmajfdcicjiaa", sum := "bafd871b371a6c8afb18680cd372dcbda5953e0066bafe7634020632eea7b8fb", func := "loop.example/g01161/laws.FnExactRotationDistance", spec := "fnExactRotationDistance", unfollowed := true, recurses := true, apart := false }
def FnExactRotationDistanceSaid : Prop := fnExactRotationDistanceRow.holds Try.pinned (OpenSpec.ofChange fnExactRotationDistanceSpec)

/-- ITS FALSE NEIGHBOUR: 'it returns false'. Refute it at one input. -/
def fnExactRotationDistanceWrong : ChangeSpec := { name := "fnExactRotationDistance", fn := fun _ => fun
  | [d1, d2] => { results := [.lit (.bool false)], args := [d1, d2] }
  | _ => none }
def FnExactRotationDistanceWrongFalsely : Prop := fnExactRotationDistanceRow.holds Try.pinned (OpenSpec.ofChange fnExactRotationDistanceWrong)

/-- 'laws.FnRotationsMade': WHATEVER THE INPUT: true; the input reads as it did. -/
def fnRotationsMadeSpec : ChangeSpec := { name := "fnRotationsMade", fn := fun _ => fun
  | [d1, d2] => { results := [.lit (.bool true)], args := [d1, d2] }
  | _ => none }
def fnRotationsMadeRow : OpenClaim := { program := "ytpmmajfdcicjiaa", sum := "bafd871b371a6c8afb18680cd372dcbda5953e0066bafe7634020632eea7b8fb", func := "loop.example/g01161/laws.FnRotationsMade", spec := "fnRotationsMade", unfollowed := true, recurses := true, apart := false }
def FnRotationsMadeSaid : Prop := fnRotationsMadeRow.holds Try.pinned (OpenSpec.ofChange fnRotationsMadeSpec)

/-- ITS FALSE NEIGHBOUR: 'it returns false'. Refute it at one input. -/
def fnRotationsMadeWrong : ChangeSpec := { name := "fnRotationsMade", fn := fun _ => fun
  | [d1, d2] => { results := [.lit (.bool false)], args := [d1, d2] }
  | _ => none }
def FnRotationsMadeWrongFalsely : Prop := fnRotationsMadeRow.holds Try.pinned (OpenSpec.ofChange fnRotationsMadeWrong)

/-- 'laws.FnCarriersCarry': WHATEVER THE INPUT: true; the input reads as it did. -/
def fnCarriersCarrySpec : ChangeSpec := { name := "fnCarriersCarry", fn := fun _ => fun
  | [d1, d2] => { results := [.lit (.bool true)], args := [d1, d2] }
  | _ => none }
def fnCarriersCarryRow : OpenClaim := { program := "ytpmmajfdcicjiaa", sum := "bafd871b371a6c8afb18680cd372dcbda5953e0066bafe7634020632eea7b8fb", func := "loop.example/g01161/laws.FnCarriersCarry", spec := "fnCarriersCarry", unfollowed := true, recurses := true, apart := false }
def FnCarriersCarrySaid : Prop := fnCarriersCarryRow.holds Try.pinned (OpenSpec.ofChange fnCarriersCarrySpec)

/-- ITS FALSE NEIGHBOUR: 'it returns false'. Refute it at one input. -/
def fnCarriersCarryWrong : ChangeSpec := { name := "fnCarriersCarry", fn := fun _ => fun
  | [d1, d2] => { results := [.lit (.bool false)], args := [d1, d2] }
  | _ => none }
def FnCarriersCarryWrongFalsely : Prop := fnCarriersCarryRow.holds Try.pinned (OpenSpec.ofChange fnCarriersCarryWrong)

/-- 'laws.FnEndsAddUp': WHATEVER THE INPUT: true; the input reads as it did. -/
def fnEndsAddUpSpec : ChangeSpec := { name := "fnEndsAddUp", fn := fun _ => fun
  | [d1, d2] => { results := [.lit (.bool true)], args := [d1, d2] }
  | _ => none }
def fnEndsAddUpRow : OpenClaim := { program := "ytpmmajfdcicjiaa", sum := "bafd871b371a6c8afb18680cd372dcbda5953e0066bafe7634020632eea7b8fb", func := "loop.example/g01161/laws.FnEndsAddUp", spec := "fnEndsAddUp", unfollowed := true, recurses := true, apart := false }
def FnEndsAddUpSaid : Prop := fnEndsAddUpRow.holds Try.pinned (OpenSpec.ofChange fnEndsAddUpSpec)

/-- ITS FALSE NEIGHBOUR: 'it returns false'. Refute it at one input. -/
def fnEndsAddUpWrong : ChangeSpec := { name := "fnEndsAddUp", fn := fun _ => fun
  | [d1, d2] => { results := [.lit (.bool false)], args := [d1, d2] }
  | _ => none }
def FnEndsAddUpWrongFalsely : Prop := fnEndsAddUpRow.holds Try.pinned (OpenSpec.ofChange fnEndsAddUpWrong)

/-- 'laws.FnRotationDistance': WHATEVER THE INPUT: true; the input reads as it did. -/
def fnRotationDistanceSpec : ChangeSpec := { name := "fnRotationDistance", fn := fun _ => fun
  | [d1, d2] => { results := [.lit (.bool true)], args := [d1, d2] }
  | _ => none }
def fnRotationDistanceRow : OpenClaim := { program := "ytpmmajfdcicjiaa", sum := "bafd871b371a6c8afb18680cd372dcbda5953e0066bafe7634020632eea7b8fb", func := "loop.example/g01161/laws.FnRotationDistance", spec := "fnRotationDistance", unfollowed := true, recurses := true, apart := false }
def FnRotationDistanceSaid : Prop := fnRotationDistanceRow.holds Try.pinned (OpenSpec.ofChange fnRotationDistanceSpec)

/-- ITS FALSE NEIGHBOUR: 'it returns false'. Refute it at one input. -/
def fnRotationDistanceWrong : ChangeSpec := { name := "fnRotationDistance", fn := fun _ => fun
  | [d1, d2] => { results := [.lit (.bool false)], args := [d1, d2] }
  | _ => none }
def FnRotationDistanceWrongFalsely : Prop := fnRotationDistanceRow.holds Try.pinned (OpenSpec.ofChange fnRotationDistanceWrong)

/- THE SECOND FORM. 'bulk': how many values and letters a reading holds, each counted each time it is reached (what is shared counts as often as it is met; a slice's spare places count too). A statement '..UptoSaid' is the law's where the arguments, and the package variables that the reading takes, are together of bulk at most 1048576: NARROWER than '..Said'. Prove '..Said' where nothing that the law and all that it calls make is longer than what came in: it says more and counts as full. Else prove '..UptoSaid'. A law counts once. -/
mutual
def uptoBulk {H : Type} : DataW H → Nat
  | .lit (.string bytes) => bytes.length + 1
  | .lit _ => 1
  | .nil => 1
  | .ptr d => uptoBulk d + 1
  | .slice elems spare => uptoBulkAll elems + uptoBulkAll spare + 1
  | .agg parts => uptoBulkAll parts + 1
  | .iface _ d => uptoBulk d + 1
  | .map entries => uptoBulkEntries entries + 1
  | .held _ => 1
def uptoBulkAll {H : Type} : List (DataW H) → Nat
  | [] => 0
  | d :: r => uptoBulk d + uptoBulkAll r
def uptoBulkEntries {H : Type} : List (Lit × DataW H) → Nat
  | [] => 0
  | x :: r => uptoBulkEntry x + uptoBulkEntries r
def uptoBulkEntry {H : Type} : Lit × DataW H → Nat
  | (.string bytes, d) => bytes.length + uptoBulk d + 1
  | (_, d) => uptoBulk d + 1
 end
def uptoSmall : (H : Type) → List (DataW H) → Bool := fun _ ds => decide (uptoBulkAll ds ≤ 1048576)
def OpenSpec.upto (s : _root_.Go.ChangeSpec) : _root_.Go.OpenSpec := { _root_.Go.OpenSpec.ofChange s with cond := some uptoSmall }

/-- 'laws.FnTablesKeepValues', WHERE WHAT IT READS IS OF BULK AT MOST 1048576: true; the input reads as it did. -/
def fnTablesKeepValuesUptoRow : OpenClaim := { program := "ytpmmajfdcicjiaa", sum := "bafd871b371a6c8afb18680cd372dcbda5953e0066bafe7634020632eea7b8fb", func := "loop.example/g01161/laws.FnTablesKeepValues", spec := "fnTablesKeepValues", unfollowed := true, recurses := true, apart := false, narrowed := true }
def FnTablesKeepValuesUptoSaid : Prop := fnTablesKeepValuesUptoRow.holds Try.pinned (OpenSpec.upto fnTablesKeepValuesSpec)

/-- 'laws.FnExactRotationDistance', WHERE WHAT IT READS IS OF BULK AT MOST 1048576: true; the input reads as it did. -/
def fnExactRotationDistanceUptoRow : OpenClaim := { program := "ytpmmajfdcicjiaa", sum := "bafd871b371a6c8afb18680cd372dcbda5953e0066bafe7634020632eea7b8fb", func := "loop.example/g01161/laws.FnExactRotationDistance", spec := "fnExactRotationDistance", unfollowed := true, recurses := true, apart := false, narrowed := true }
def FnExactRotationDistanceUptoSaid : Prop := fnExactRotationDistanceUptoRow.holds Try.pinned (OpenSpec.upto fnExactRotationDistanceSpec)

/-- 'laws.FnRotationsMade', WHERE WHAT IT READS IS OF BULK AT MOST 1048576: true; the input reads as it did. -/
def fnRotationsMadeUptoRow : OpenClaim := { program := "ytpmmajfdcicjiaa", sum := "bafd871b371a6c8afb18680cd372dcbda5953e0066bafe7634020632eea7b8fb", func := "loop.example/g01161/laws.FnRotationsMade", spec := "fnRotationsMade", unfollowed := true, recurses := true, apart := false, narrowed := true }
def FnRotationsMadeUptoSaid : Prop := fnRotationsMadeUptoRow.holds Try.pinned (OpenSpec.upto fnRotationsMadeSpec)

/-- 'laws.FnCarriersCarry', WHERE WHAT IT READS IS OF BULK AT MOST 1048576: true; the input reads as it did. -/
def fnCarriersCarryUptoRow : OpenClaim := { program := "ytpmmajfdcicjiaa", sum := "bafd871b371a6c8afb18680cd372dcbda5953e0066bafe7634020632eea7b8fb", func := "loop.example/g01161/laws.FnCarriersCarry", spec := "fnCarriersCarry", unfollowed := true, recurses := true, apart := false, narrowed := true }
def FnCarriersCarryUptoSaid : Prop := fnCarriersCarryUptoRow.holds Try.pinned (OpenSpec.upto fnCarriersCarrySpec)

/-- 'laws.FnEndsAddUp', WHERE WHAT IT READS IS OF BULK AT MOST 1048576: true; the input reads as it did. -/
def fnEndsAddUpUptoRow : OpenClaim := { program := "ytpmmajfdcicjiaa", sum := "bafd871b371a6c8afb18680cd372dcbda5953e0066bafe7634020632eea7b8fb", func := "loop.example/g01161/laws.FnEndsAddUp", spec := "fnEndsAddUp", unfollowed := true, recurses := true, apart := false, narrowed := true }
def FnEndsAddUpUptoSaid : Prop := fnEndsAddUpUptoRow.holds Try.pinned (OpenSpec.upto fnEndsAddUpSpec)

/-- 'laws.FnRotationDistance', WHERE WHAT IT READS IS OF BULK AT MOST 1048576: true; the input reads as it did. -/
def fnRotationDistanceUptoRow : OpenClaim := { program := "ytpmmajfdcicjiaa", sum := "bafd871b371a6c8afb18680cd372dcbda5953e0066bafe7634020632eea7b8fb", func := "loop.example/g01161/laws.FnRotationDistance", spec := "fnRotationDistance", unfollowed := true, recurses := true, apart := false, narrowed := true }
def FnRotationDistanceUptoSaid : Prop := fnRotationDistanceUptoRow.holds Try.pinned (OpenSpec.upto fnRotationDistanceSpec)

end Rows
end Go.Proofs.Ytpmmajfdcicjiaa
