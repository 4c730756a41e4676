import Derived.Test.YtfjhecilkeikiaaBa
import Derived.Test.YtfjhecilkeikiaaPu
import Derived.Test.YtfjhecilkeikiaaSl
import Derived.Test.YtfjhecilkeikiaaProg
import Derived.Test.YtfjhecilkeikiaaTn
import Derived.Test.YtfjhecilkeikiaaTs
import Derived.Test.YtfjhecilkeikiaaPp
import Derived.Test.YtfjhecilkeikiaaPg
import Derived.Test.YtfjhecilkeikiaaPh
import Derived.Test.YtfjhecilkeikiaaWl
import Derived.Test.YtfjhecilkeikiaaTp
import Derived.Test.YtfjhecilkeikiaaTr
import Derived.Test.YtfjhecilkeikiaaTu
import Derived.Test.YtfjhecilkeikiaaTg
import Derived.Test.YtfjhecilkeikiaaSg
import Derived.Test.YtfjhecilkeikiaaVt
import Derived.Test.YtfjhecilkeikiaaTk
import Derived.Test.YtfjhecilkeikiaaSj
import Derived.Test.YtfjhecilkeikiaaCl
import Derived.Test.YtfjhecilkeikiaaSx
import Derived.Test.YtfjhecilkeikiaaSy
import Derived.Test.YtfjhecilkeikiaaSz
import Derived.Test.YtfjhecilkeikiaaWp
import Derived.Test.YtfjhecilkeikiaaWq
import Derived.Test.YtfjhecilkeikiaaRh
import Derived.Deep.LoopGhost
import Derived.Deep.RegionHeld3
import Derived.Deep.QuietTactic
import Derived.StillTailTactics
/- A pair conjugated by a word, letter by letter: the program's function. -/
namespace Go.Proofs.Ytfjhecilkeikiaa.N
open Go.RowKit
set_option linter.unusedVariables false
set_option linter.unusedSimpArgs false

/-- Letter by letter, while the pair is not too great. -/
def cjW : List Int → Tr × Tr → Option (Tr × Tr)
  | [], p => some p
  | n :: l, p => if 8 < (conj p (letP n)).1.carets then none else cjW l (conj p (letP n))
def CwV (o : Option (Tr × Tr)) : Value := match o with
  | some p => pb (tx p.1) (tx p.2) true
  | none => pb ⟨#[]⟩ ⟨#[]⟩ false
theorem cjW_step (xs : List Int) (j : Nat) (x : Int) (hx : xs[j]? = some x) (p : Tr × Tr) : cjW (xs.drop j) p = if 8 < (conj p (letP x)).1.carets then none else cjW (xs.drop (j + 1)) (conj p (letP x)) := by
  obtain ⟨h1, h2⟩ := List.getElem?_eq_some_iff.1 hx
  rw [List.drop_eq_getElem_cons h1, h2]; rfl
theorem boxP_facts (w : World) (s t : ByteArray) :
    Ext w ((w.alloc (.cells #[.string s, .string t] 28)).alloc (.cells #[.string ⟨#[]⟩, .string ⟨#[]⟩] 28)) ∧
    Two ((w.alloc (.cells #[.string s, .string t] 28)).alloc (.cells #[.string ⟨#[]⟩, .string ⟨#[]⟩] 28)) w.heap.size 28 ∧
    Two ((w.alloc (.cells #[.string s, .string t] 28)).alloc (.cells #[.string ⟨#[]⟩, .string ⟨#[]⟩] 28)) (w.heap.size + 1) 28 ∧
    ((w.alloc (.cells #[.string s, .string t] 28)).alloc (.cells #[.string ⟨#[]⟩, .string ⟨#[]⟩] 28)).heap[w.heap.size]? = some (.cells #[.string s, .string t] 28) :=
  ⟨((Ext.refl w).alloc _).alloc _, (Two.new w _ _ _ rfl).ext ((Ext.refl _).alloc _), Two.new _ _ _ _ (by simp), ((Ext.refl _).alloc _).at (heap_alloc_new w _)⟩
theorem Two.lt {w : World} {g : Nat} {t : TypeId} (h : Two w g t) : g < w.heap.size := let ⟨u, v, e⟩ := h.at_; (Array.getElem?_eq_some_iff.1 e).1

