import Derived.Test.YtijnadjgmmednaaXd8
import Derived.Test.YtijnadjgmmednaaXd9
/- A part of the proof: lemmas that later parts use. -/
set_option linter.unusedVariables false
set_option linter.unusedSimpArgs false
namespace Go.Proofs.Ytijnadjgmmednaa.N
open Go.RowKit
def ptl (p : Tr × Tr) : List UInt8 := p.1.txt ++ 62 :: p.2.txt
def ptx (p : Tr × Tr) : ByteArray := S (ptl p)
theorem ptx_eq (p : Tr × Tr) : (tx p.1 ++ (⟨#[62]⟩ : ByteArray)) ++ tx p.2 = ptx p := by
  show (S _ ++ S [62]) ++ S _ = S _
  simp only [S_append, ptl]
  simp
set_option maxHeartbeats 3200000 in
set_option maxRecDepth 100000 in
theorem ptext_calls (A B : Tr) (hA : A.carets < 1000000) (hB : B.carets < 1000000) (pa pb : Option Addr) (w : World) (ra : Rep w A pa) (rb : Rep w B pb) :
    Calls Try.prog 174 #[.agg #[.pointer pa, .pointer pb]] w fun e w' => e = .returned (.string (ptx (A, B))) ∧ Ext w w' := by
  have X1 := Lib.hid ((Ext.refl w).alloc (.cells #[.pointer pa, .pointer pb] 82))
  have C1 := fun W (hx : Ext w W) => text_calls A pa W (by omega) (ra.ext hx)
  have C2 := fun W (hx : Ext w W) => text_calls B pb W (by omega) (rb.ext hx)
  obtain ⟨c0, c1⟩ := cells_of (heap_alloc_new w (.cells #[.pointer pa, .pointer pb] 82))
  have E : Hid ((tx A ++ (⟨#[62]⟩ : ByteArray)) ++ tx B = ptx (A, B)) := ptx_eq (A, B)
  have zl : (tx A).size ≤ 3000001 := by show A.txt.length ≤ _; rw [Tr.txt_length]; omega
  have zr : (tx B).size ≤ 3000001 := by show B.txt.length ≤ _; rw [Tr.txt_length]; omega
  clear ra rb hA hB
  generalize ptx (A, B) = z at *
  go_enter Try.func174, Try.ntmps174
  go_wp2_with fail
  generalize w.alloc (.cells #[.pointer pa, .pointer pb] 82) = W at *
  go_quiet (first
    | (go_at_call_of 105 (Value.pointer pa); refine Calls.quiet_of (C1 _ ?_); exact X1.out.drewN _)
    | (go_at_call_of 105 (Value.pointer pb); refine Calls.quiet_of (C2 _ ?_); exact X1.out.drewN _))
  go_wp2_with fail
  go_ret
  exact ⟨by rw [E.out]; rfl, X1.out.drewN _⟩
end Go.Proofs.Ytijnadjgmmednaa.N
