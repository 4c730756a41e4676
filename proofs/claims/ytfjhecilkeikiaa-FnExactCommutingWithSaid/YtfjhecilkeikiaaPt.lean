import Derived.Test.YtfjhecilkeikiaaBa
import Derived.Test.YtfjhecilkeikiaaPu
import Derived.Test.YtfjhecilkeikiaaSl
import Derived.Test.YtfjhecilkeikiaaProg
import Derived.Test.YtfjhecilkeikiaaTn
import Derived.Test.YtfjhecilkeikiaaTs
import Derived.Test.YtfjhecilkeikiaaPp
import Derived.Test.YtfjhecilkeikiaaWl
import Derived.Test.YtfjhecilkeikiaaTp
import Derived.Test.YtfjhecilkeikiaaTq
import Derived.Test.YtfjhecilkeikiaaTr
import Derived.Test.YtfjhecilkeikiaaTu
import Derived.Test.YtfjhecilkeikiaaVv
import Derived.Deep.LoopGhost
import Derived.Deep.RegionHeld3
import Derived.StillTailTactics
import Derived.Deep.QuietTactic
import Derived.BigQuiet
/- The text of a pair, both functions. -/
namespace Go.Proofs.Ytfjhecilkeikiaa.N
open Go.RowKit
set_option linter.unusedVariables false
set_option linter.unusedSimpArgs false

/-- The text of a pair. -/
def ptl (p : Tr × Tr) : List UInt8 := p.1.txt ++ 62 :: p.2.txt
def ptx (p : Tr × Tr) : ByteArray := S (ptl p)
theorem ptx_eq (p : Tr × Tr) : (tx p.1 ++ (⟨#[62]⟩ : ByteArray)) ++ tx p.2 = ptx p := by
  show (S _ ++ S [62]) ++ S _ = S _
  simp only [S_append, ptl]
  simp
theorem ptx_inj {p q : Tr × Tr} (h : ptx p = ptx q) : p = q := by
  have h1 := S_inj h
  unfold ptl at h1
  obtain ⟨h2, h3⟩ := txt_inj h1
  injection h3 with _ h4
  have h5 := txt_inj (r := []) (s := []) (by simpa using h4)
  exact Prod.ext h2 h5.1
theorem ptx_size (p : Tr × Tr) : (ptx p).size = 3 * p.1.carets + 3 * p.2.carets + 3 := by
  show (ptl p).length = _
  simp [ptl, Tr.txt_length]; omega

set_option maxHeartbeats 3200000 in
set_option maxRecDepth 100000 in
theorem ptext_calls (A B : Tr) (hA : A.carets < 1000000) (hB : B.carets < 1000000) (pa pb : Option Addr) (w : World) (ra : Rep w A pa) (rb : Rep w B pb) :
    Calls Try.prog 50 #[.agg #[.pointer pa, .pointer pb]] w fun e w' => e = .returned (.string (ptx (A, B))) ∧ Ext w w' := by
  have X1 := Lib.hid ((Ext.refl w).alloc (.cells #[.pointer pa, .pointer pb] 48))
  have C1 := fun W (hx : Ext w W) => text_calls A pa W (by omega) (ra.ext hx)
  have C2 := fun W (hx : Ext w W) => text_calls B pb W (by omega) (rb.ext hx)
  obtain ⟨c0, c1⟩ := cells_of (heap_alloc_new w (.cells #[.pointer pa, .pointer pb] 48))
  have E : Hid ((tx A ++ (⟨#[62]⟩ : ByteArray)) ++ tx B = ptx (A, B)) := ptx_eq (A, B)
  have zl : (tx A).size ≤ 3000001 := by show A.txt.length ≤ _; rw [Tr.txt_length]; omega
  have zr : (tx B).size ≤ 3000001 := by show B.txt.length ≤ _; rw [Tr.txt_length]; omega
  clear ra rb hA hB
  generalize ptx (A, B) = z at *
  go_enter Try.func50, Try.ntmps50
  go_wp2_with fail
  generalize w.alloc (.cells #[.pointer pa, .pointer pb] 48) = W at *
  go_quiet (first
    | (go_at_call_of 84 (Value.pointer pa); refine Calls.quiet_of (C1 _ ?_); exact X1.out.drewN _)
    | (go_at_call_of 84 (Value.pointer pb); refine Calls.quiet_of (C2 _ ?_); exact X1.out.drewN _))
  go_wp2_with fail
  go_ret
  exact ⟨by rw [E.out]; rfl, X1.out.drewN _⟩

set_option maxHeartbeats 1600000 in
theorem prText_calls (A B : Tr) (hA : A.carets < 1000000) (hB : B.carets < 1000000) (w : World) :
    Calls Try.prog 46 #[.agg #[.string (tx A), .string (tx B)]] w fun e w' => e = .returned (.string (ptx (A, B))) ∧ Ext w w' := by
  have X1 := Lib.hid ((Ext.refl w).alloc (.cells #[.string (tx A), .string (tx B)] 28))
  have E : Hid ((tx A ++ (⟨#[62]⟩ : ByteArray)) ++ tx B = ptx (A, B)) := ptx_eq (A, B)
  have zl : (tx A).size ≤ 3000001 := by show A.txt.length ≤ _; rw [Tr.txt_length]; omega
  have zr : (tx B).size ≤ 3000001 := by show B.txt.length ≤ _; rw [Tr.txt_length]; omega
  generalize ptx (A, B) = z at *
  go_enter Try.func46, Try.ntmps46
  go_wp2_with fail
  go_ret
  exact ⟨by rw [E.out]; rfl, X1.out⟩
end Go.Proofs.Ytfjhecilkeikiaa.N
