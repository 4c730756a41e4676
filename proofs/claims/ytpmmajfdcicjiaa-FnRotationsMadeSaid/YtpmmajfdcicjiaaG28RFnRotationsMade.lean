import Derived.Test.YtpmmajfdcicjiaaG1RFnRotationsMade
import Derived.Test.YtpmmajfdcicjiaaG2RFnRotationsMade
import Derived.Test.YtpmmajfdcicjiaaProg
import Derived.Test.YtpmmajfdcicjiaaG5RFnRotationsMade
import Derived.Test.YtpmmajfdcicjiaaG3RFnRotationsMade
import Derived.Test.YtpmmajfdcicjiaaG25RFnRotationsMade
import Derived.Test.YtpmmajfdcicjiaaG7RFnRotationsMade
import Derived.Test.YtpmmajfdcicjiaaG6RFnRotationsMade
import Derived.Test.YtpmmajfdcicjiaaG8RFnRotationsMade
import Derived.Test.YtpmmajfdcicjiaaG19RFnRotationsMade
import Derived.Test.YtpmmajfdcicjiaaG21RFnRotationsMade
import Derived.Deep.LoopGhost
import Derived.StillTailTactics
import Derived.Deep.RegionHeld3
import Derived.Deep.QuietTactic
import Derived.Test.YtpmmajfdcicjiaaG4RFnRotationsMade
import Derived.Test.YtpmmajfdcicjiaaG22RFnRotationsMade
import Derived.Test.YtpmmajfdcicjiaaG9RFnRotationsMade
import Derived.Test.YtpmmajfdcicjiaaG15RFnRotationsMade
import Derived.Test.YtpmmajfdcicjiaaG26RFnRotationsMade
import Derived.Test.YtpmmajfdcicjiaaG27RFnRotationsMade
/- A pair split into halves: both functions and the law. -/
namespace Go.Proofs.Ytpmmajfdcicjiaa.N
open Go.RowKit
set_option linter.unusedVariables false
set_option linter.unusedSimpArgs false

theorem IdentityPair_calls (w : World) : Calls Try.prog 54 #[] w fun e w' => e = .returned (.agg #[.string (tx .leaf), .string (tx .leaf)]) ∧ Ext w w' := by
  have X1 := Lib.hid ((Ext.refl w).alloc (.cells #[.string ⟨#[46]⟩, .string ⟨#[46]⟩] 25))
  obtain ⟨hc0, hc1⟩ := cells_of (heap_alloc_new w (.cells #[.string ⟨#[46]⟩, .string ⟨#[46]⟩] 25))
  go_enter Try.func54, Try.ntmps54
  go_wp2_with fail
  exact bodyPost_ret (v := .agg #[.string ⟨#[46]⟩, .string ⟨#[46]⟩]) (by simp [results, Try.results54, go_sem, hc0, hc1]) rfl ⟨rfl, X1.out⟩

/-- Two pairs and a bool. -/
def ppb (a b c d : ByteArray) (f : Bool) : Value := .tuple #[.agg #[.string a, .string b], .agg #[.string c, .string d], .bool f]
theorem Two.far {w : World} {g k : Nat} {t : TypeId} (h : Two w k t) (hk : k ≠ g) (a b : Value) : Two (set2 w g a b) k t := let ⟨u, v, e⟩ := h.at_; ⟨u, v, (set2_other hk a b).trans e⟩
theorem two_results {w0 W : World} {g : Nat} {t : TypeId} (T1 : Two W g t) (T2 : Two W (g + 1) t) (a b c d : Value) (hx : Ext w0 W) (hg : w0.heap.size ≤ g) :
    (set2 (set2 W g a b) (g + 1) c d).cell? ⟨g, 0, none⟩ = some a ∧ (set2 (set2 W g a b) (g + 1) c d).cell? ⟨g, 1, none⟩ = some b ∧
    (set2 (set2 W g a b) (g + 1) c d).cell? ⟨g + 1, 0, none⟩ = some c ∧ (set2 (set2 W g a b) (g + 1) c d).cell? ⟨g + 1, 1, none⟩ = some d ∧ Ext w0 (set2 (set2 W g a b) (g + 1) c d) := by
  obtain ⟨a0, a1⟩ := cells_of (set2_heap T1 a b)
  obtain ⟨c0, c1⟩ := cells_of (set2_heap (T2.far (g := g) (by omega) a b) c d)
  exact ⟨set2_far (by simp) _ _ a0, set2_far (by simp) _ _ a1, c0, c1, (hx.set2 hg a b).set2 (by omega) c d⟩
theorem boxPP_facts (w : World) (s t : ByteArray) :
    Ext w (((w.alloc (.cells #[.string s, .string t] 25)).alloc (.cells #[.string ⟨#[]⟩, .string ⟨#[]⟩] 25)).alloc (.cells #[.string ⟨#[]⟩, .string ⟨#[]⟩] 25)) ∧
    Two (((w.alloc (.cells #[.string s, .string t] 25)).alloc (.cells #[.string ⟨#[]⟩, .string ⟨#[]⟩] 25)).alloc (.cells #[.string ⟨#[]⟩, .string ⟨#[]⟩] 25)) w.heap.size 25 ∧
    Two (((w.alloc (.cells #[.string s, .string t] 25)).alloc (.cells #[.string ⟨#[]⟩, .string ⟨#[]⟩] 25)).alloc (.cells #[.string ⟨#[]⟩, .string ⟨#[]⟩] 25)) (w.heap.size + 1) 25 ∧
    Two (((w.alloc (.cells #[.string s, .string t] 25)).alloc (.cells #[.string ⟨#[]⟩, .string ⟨#[]⟩] 25)).alloc (.cells #[.string ⟨#[]⟩, .string ⟨#[]⟩] 25)) (w.heap.size + 1 + 1) 25 :=
  ⟨(((Ext.refl w).alloc _).alloc _).alloc _, ((Two.new w _ _ _ rfl).ext ((Ext.refl _).alloc _)).ext ((Ext.refl _).alloc _), (Two.new _ _ _ _ (by simp)).ext ((Ext.refl _).alloc _), Two.new _ _ _ _ (by simp)⟩
/-- What splitting gives. -/
def splitT (p : Tr × Tr) : Option ((Tr × Tr) × (Tr × Tr)) :=
  match p with
  | (.leaf, _) => some ((.leaf, .leaf), (.leaf, .leaf))
  | (.node l r, .node a b) => if l.carets = a.carets then some ((l, a), (r, b)) else none
  | (.node _ _, .leaf) => none
def SpV (o : Option ((Tr × Tr) × (Tr × Tr))) : Value := match o with
  | some (x, y) => ppb (tx x.1) (tx x.2) (tx y.1) (tx y.2) true
  | none => ppb ⟨#[]⟩ ⟨#[]⟩ ⟨#[]⟩ ⟨#[]⟩ false

end Go.Proofs.Ytpmmajfdcicjiaa.N
/- A pair conjugated by a word, letter by letter: the program's function. -/
namespace Go.Proofs.Ytpmmajfdcicjiaa.N
open Go.RowKit
set_option linter.unusedVariables false
set_option linter.unusedSimpArgs false

/-- Letter by letter, while the pair is not too great. -/
def cjW : List Int → Tr × Tr → Option (Tr × Tr)
  | [], p => some p
  | n :: l, p => if 8 < (conj p (letP n)).1.carets then none else cjW l (conj p (letP n))
def CwV (o : Option (Tr × Tr)) : Value := match o with
  | some p => pb (tx p.1) (tx p.2) true
  | none => pb ⟨#[]⟩ ⟨#[]⟩ false
theorem cjW_step (xs : List Int) (j : Nat) (x : Int) (hx : xs[j]? = some x) (p : Tr × Tr) : cjW (xs.drop j) p = if 8 < (conj p (letP x)).1.carets then none else cjW (xs.drop (j + 1)) (conj p (letP x)) := by
  obtain ⟨h1, h2⟩ := List.getElem?_eq_some_iff.1 hx
  rw [List.drop_eq_getElem_cons h1, h2]; rfl
theorem boxP_facts (w : World) (s t : ByteArray) :
    Ext w ((w.alloc (.cells #[.string s, .string t] 25)).alloc (.cells #[.string ⟨#[]⟩, .string ⟨#[]⟩] 25)) ∧
    Two ((w.alloc (.cells #[.string s, .string t] 25)).alloc (.cells #[.string ⟨#[]⟩, .string ⟨#[]⟩] 25)) w.heap.size 25 ∧
    Two ((w.alloc (.cells #[.string s, .string t] 25)).alloc (.cells #[.string ⟨#[]⟩, .string ⟨#[]⟩] 25)) (w.heap.size + 1) 25 ∧
    ((w.alloc (.cells #[.string s, .string t] 25)).alloc (.cells #[.string ⟨#[]⟩, .string ⟨#[]⟩] 25)).heap[w.heap.size]? = some (.cells #[.string s, .string t] 25) :=
  ⟨((Ext.refl w).alloc _).alloc _, (Two.new w _ _ _ rfl).ext ((Ext.refl _).alloc _), Two.new _ _ _ _ (by simp), ((Ext.refl _).alloc _).at (heap_alloc_new w _)⟩
theorem Two.lt {w : World} {g : Nat} {t : TypeId} (h : Two w g t) : g < w.heap.size := let ⟨u, v, e⟩ := h.at_; (Array.getElem?_eq_some_iff.1 e).1

end Go.Proofs.Ytpmmajfdcicjiaa.N
