import Derived.Test.YtpmmajfdcicjiaaBa
import Derived.Test.YtpmmajfdcicjiaaPu
import Derived.Test.YtpmmajfdcicjiaaSl
import Derived.Test.YtpmmajfdcicjiaaProg
import Derived.Test.YtpmmajfdcicjiaaTn
import Derived.Test.YtpmmajfdcicjiaaTs
import Derived.Test.YtpmmajfdcicjiaaPp
import Derived.Test.YtpmmajfdcicjiaaPg
import Derived.Test.YtpmmajfdcicjiaaPh
import Derived.Test.YtpmmajfdcicjiaaWl
import Derived.Test.YtpmmajfdcicjiaaTp
import Derived.Test.YtpmmajfdcicjiaaTr
import Derived.Test.YtpmmajfdcicjiaaTu
import Derived.Test.YtpmmajfdcicjiaaTg
import Derived.Test.YtpmmajfdcicjiaaSg
import Derived.Test.YtpmmajfdcicjiaaVt
import Derived.Test.YtpmmajfdcicjiaaTk
import Derived.Test.YtpmmajfdcicjiaaSj
import Derived.Test.YtpmmajfdcicjiaaCl
import Derived.Test.YtpmmajfdcicjiaaSx
import Derived.Test.YtpmmajfdcicjiaaSy
import Derived.Test.YtpmmajfdcicjiaaSz
import Derived.Test.YtpmmajfdcicjiaaWp
import Derived.Test.YtpmmajfdcicjiaaWq
import Derived.Test.YtpmmajfdcicjiaaRh
import Derived.Deep.LoopGhost
import Derived.Deep.RegionHeld3
import Derived.Deep.QuietTactic
import Derived.StillTailTactics
/- A pair conjugated by a word, letter by letter: the program's function. -/
namespace Go.Proofs.Ytpmmajfdcicjiaa.N
open Go.RowKit
set_option linter.unusedVariables false
set_option linter.unusedSimpArgs false

/-- Letter by letter, while the pair is not too great. -/
def cjW : List Int → Tr × Tr → Option (Tr × Tr)
  | [], p => some p
  | n :: l, p => if 8 < (conj p (letP n)).1.carets then none else cjW l (conj p (letP n))
def CwV (o : Option (Tr × Tr)) : Value := match o with
  | some p => pb (tx p.1) (tx p.2) true
  | none => pb ⟨#[]⟩ ⟨#[]⟩ false
theorem cjW_step (xs : List Int) (j : Nat) (x : Int) (hx : xs[j]? = some x) (p : Tr × Tr) : cjW (xs.drop j) p = if 8 < (conj p (letP x)).1.carets then none else cjW (xs.drop (j + 1)) (conj p (letP x)) := by
  obtain ⟨h1, h2⟩ := List.getElem?_eq_some_iff.1 hx
  rw [List.drop_eq_getElem_cons h1, h2]; rfl
theorem boxP_facts (w : World) (s t : ByteArray) :
    Ext w ((w.alloc (.cells #[.string s, .string t] 25)).alloc (.cells #[.string ⟨#[]⟩, .string ⟨#[]⟩] 25)) ∧
    Two ((w.alloc (.cells #[.string s, .string t] 25)).alloc (.cells #[.string ⟨#[]⟩, .string ⟨#[]⟩] 25)) w.heap.size 25 ∧
    Two ((w.alloc (.cells #[.string s, .string t] 25)).alloc (.cells #[.string ⟨#[]⟩, .string ⟨#[]⟩] 25)) (w.heap.size + 1) 25 ∧
    ((w.alloc (.cells #[.string s, .string t] 25)).alloc (.cells #[.string ⟨#[]⟩, .string ⟨#[]⟩] 25)).heap[w.heap.size]? = some (.cells #[.string s, .string t] 25) :=
  ⟨((Ext.refl w).alloc _).alloc _, (Two.new w _ _ _ rfl).ext ((Ext.refl _).alloc _), Two.new _ _ _ _ (by simp), ((Ext.refl _).alloc _).at (heap_alloc_new w _)⟩
theorem Two.lt {w : World} {g : Nat} {t : TypeId} (h : Two w g t) : g < w.heap.size := let ⟨u, v, e⟩ := h.at_; (Array.getElem?_eq_some_iff.1 e).1

