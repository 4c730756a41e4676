import Derived.Test.YtfjhecilkeikiaaG1RFnExactRootsOf
import Derived.Test.YtfjhecilkeikiaaG2RFnExactRootsOf
import Derived.Test.YtfjhecilkeikiaaProg
import Derived.Test.YtfjhecilkeikiaaG4RFnExactRootsOf
import Derived.Test.YtfjhecilkeikiaaG5RFnExactRootsOf
import Derived.Test.YtfjhecilkeikiaaG6RFnExactRootsOf
import Derived.Test.YtfjhecilkeikiaaG26RFnExactRootsOf
import Derived.Test.YtfjhecilkeikiaaG27RFnExactRootsOf
import Derived.Test.YtfjhecilkeikiaaG12RFnExactRootsOf
import Derived.Test.YtfjhecilkeikiaaG13RFnExactRootsOf
import Derived.Deep.CutRange
import Derived.Deep.LoopGhost
import Derived.Deep.QuietTactic
import Derived.BigQuiet
import Derived.Test.YtfjhecilkeikiaaG3RFnExactRootsOf
import Derived.Test.YtfjhecilkeikiaaG10RFnExactRootsOf
import Derived.StillTailTactics
import Derived.Deep.RegionHeld3
/- The laws of pairs shifted and of pairs of halves. -/
namespace Go.Proofs.Ytfjhecilkeikiaa.N
open Go.RowKit
set_option linter.unusedVariables false
set_option linter.unusedSimpArgs false

/-- A pair and a bool. -/
def pb (x y : ByteArray) (b : Bool) : Value := .tuple #[.agg #[.string x, .string y], .bool b]
theorem ifP_pb (p : Tr × Tr) : ∃ x y b, ifP p = pb x y b := ifP_two p

end Go.Proofs.Ytfjhecilkeikiaa.N
/- A pair split into halves: both functions and the law. -/
namespace Go.Proofs.Ytfjhecilkeikiaa.N
open Go.RowKit
set_option linter.unusedVariables false
set_option linter.unusedSimpArgs false

theorem prUnit_calls (w : World) : Calls Try.prog 52 #[] w fun e w' => e = .returned (.agg #[.string (tx .leaf), .string (tx .leaf)]) ∧ Ext w w' := by
  have X1 := Lib.hid ((Ext.refl w).alloc (.cells #[.string ⟨#[46]⟩, .string ⟨#[46]⟩] 28))
  obtain ⟨hc0, hc1⟩ := cells_of (heap_alloc_new w (.cells #[.string ⟨#[46]⟩, .string ⟨#[46]⟩] 28))
  go_enter Try.func52, Try.ntmps52
  go_wp2_with fail
  exact bodyPost_ret (v := .agg #[.string ⟨#[46]⟩, .string ⟨#[46]⟩]) (by simp [results, Try.results52, go_sem, hc0, hc1]) rfl ⟨rfl, X1.out⟩
/-- Two pairs and a bool. -/
def ppb (a b c d : ByteArray) (f : Bool) : Value := .tuple #[.agg #[.string a, .string b], .agg #[.string c, .string d], .bool f]
theorem Two.far {w : World} {g k : Nat} {t : TypeId} (h : Two w k t) (hk : k ≠ g) (a b : Value) : Two (set2 w g a b) k t := let ⟨u, v, e⟩ := h.at_; ⟨u, v, (set2_other hk a b).trans e⟩
theorem two_results {w0 W : World} {g : Nat} {t : TypeId} (T1 : Two W g t) (T2 : Two W (g + 1) t) (a b c d : Value) (hx : Ext w0 W) (hg : w0.heap.size ≤ g) :
    (set2 (set2 W g a b) (g + 1) c d).cell? ⟨g, 0, none⟩ = some a ∧ (set2 (set2 W g a b) (g + 1) c d).cell? ⟨g, 1, none⟩ = some b ∧
    (set2 (set2 W g a b) (g + 1) c d).cell? ⟨g + 1, 0, none⟩ = some c ∧ (set2 (set2 W g a b) (g + 1) c d).cell? ⟨g + 1, 1, none⟩ = some d ∧ Ext w0 (set2 (set2 W g a b) (g + 1) c d) := by
  obtain ⟨a0, a1⟩ := cells_of (set2_heap T1 a b)
  obtain ⟨c0, c1⟩ := cells_of (set2_heap (T2.far (g := g) (by omega) a b) c d)
  exact ⟨set2_far (by simp) _ _ a0, set2_far (by simp) _ _ a1, c0, c1, (hx.set2 hg a b).set2 (by omega) c d⟩
theorem boxPP_facts (w : World) (s t : ByteArray) :
    Ext w (((w.alloc (.cells #[.string s, .string t] 28)).alloc (.cells #[.string ⟨#[]⟩, .string ⟨#[]⟩] 28)).alloc (.cells #[.string ⟨#[]⟩, .string ⟨#[]⟩] 28)) ∧
    Two (((w.alloc (.cells #[.string s, .string t] 28)).alloc (.cells #[.string ⟨#[]⟩, .string ⟨#[]⟩] 28)).alloc (.cells #[.string ⟨#[]⟩, .string ⟨#[]⟩] 28)) w.heap.size 28 ∧
    Two (((w.alloc (.cells #[.string s, .string t] 28)).alloc (.cells #[.string ⟨#[]⟩, .string ⟨#[]⟩] 28)).alloc (.cells #[.string ⟨#[]⟩, .string ⟨#[]⟩] 28)) (w.heap.size + 1) 28 ∧
    Two (((w.alloc (.cells #[.string s, .string t] 28)).alloc (.cells #[.string ⟨#[]⟩, .string ⟨#[]⟩] 28)).alloc (.cells #[.string ⟨#[]⟩, .string ⟨#[]⟩] 28)) (w.heap.size + 1 + 1) 28 :=
  ⟨(((Ext.refl w).alloc _).alloc _).alloc _, ((Two.new w _ _ _ rfl).ext ((Ext.refl _).alloc _)).ext ((Ext.refl _).alloc _), (Two.new _ _ _ _ (by simp)).ext ((Ext.refl _).alloc _), Two.new _ _ _ _ (by simp)⟩
/-- What splitting gives. -/
def splitT (p : Tr × Tr) : Option ((Tr × Tr) × (Tr × Tr)) :=
  match p with
  | (.leaf, _) => some ((.leaf, .leaf), (.leaf, .leaf))
  | (.node l r, .node a b) => if l.carets = a.carets then some ((l, a), (r, b)) else none
  | (.node _ _, .leaf) => none
def SpV (o : Option ((Tr × Tr) × (Tr × Tr))) : Value := match o with
  | some (x, y) => ppb (tx x.1) (tx x.2) (tx y.1) (tx y.2) true
  | none => ppb ⟨#[]⟩ ⟨#[]⟩ ⟨#[]⟩ ⟨#[]⟩ false

end Go.Proofs.Ytfjhecilkeikiaa.N
