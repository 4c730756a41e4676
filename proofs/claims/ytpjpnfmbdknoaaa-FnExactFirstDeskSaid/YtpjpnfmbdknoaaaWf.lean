import Derived.Test.YtpjpnfmbdknoaaaBa
import Derived.Test.YtpjpnfmbdknoaaaPu
import Derived.Test.YtpjpnfmbdknoaaaSl
import Derived.Test.YtpjpnfmbdknoaaaProg
import Derived.Test.YtpjpnfmbdknoaaaPp
import Derived.Test.YtpjpnfmbdknoaaaPg
import Derived.Test.YtpjpnfmbdknoaaaWl
import Derived.Test.YtpjpnfmbdknoaaaTp
import Derived.Test.YtpjpnfmbdknoaaaTr
import Derived.Test.YtpjpnfmbdknoaaaTu
import Derived.Test.YtpjpnfmbdknoaaaTg
import Derived.Test.YtpjpnfmbdknoaaaSg
import Derived.Test.YtpjpnfmbdknoaaaWp
import Derived.Deep.LoopGhost
/- The desk at the start: both functions and the law. -/
namespace Go.Proofs.Ytpjpnfmbdknoaaa.N
open Go.RowKit
set_option linter.unusedVariables false
set_option linter.unusedSimpArgs false

set_option maxHeartbeats 1600000 in
set_option maxRecDepth 100000 in
theorem implFirstDesk_calls (w : World) :
    Calls Try.prog 16 #[] w fun e w' => e = .returned (.agg #[.string (tx (gen 0).1), .string (tx (gen 0).2)]) ∧ Ext w w' := by
  have X0 := Lib.hid ((Ext.refl w).alloc (.cells #[.string ⟨#[]⟩, .string ⟨#[]⟩] 23))
  have t0 := Two.new w (.string ⟨#[]⟩) (.string ⟨#[]⟩) 23 rfl
  have G := gen_carets 0
  have C1 := Lib.hid (fun W => generator_calls 0 (by omega) W)
  have C2 := Lib.hid (fun pa pb W => plain_calls (gen 0).1 (gen 0).2 (by omega) (by omega) pa pb W)
  clear G
  generalize (gen 0).1 = T1 at *
  generalize (gen 0).2 = T2 at *
  generalize tx T1 = s1 at *
  generalize tx T2 = s2 at *
  go_enter Try.func16, Try.ntmps16
  go_wp2_with fail
  generalize w.alloc (.cells #[.string ⟨#[]⟩, .string ⟨#[]⟩] 23) = W at *
  refine (C1.out _).mono ?_
  rintro e w1 ⟨pa, pb, rfl, r1, r2, x1⟩
  have R := Lib.hid (And.intro r1 r2)
  have X1 := Lib.hid (X0.out.trans x1)
  have T := Lib.hid (t0.ext x1)
  clear r1 r2 x1 t0
  go_wp2_with fail
  refine (C2.out pa pb _ R.out.1 R.out.2).mono ?_
  rintro e w2 ⟨rfl, x2⟩
  have TT := T.out.ext x2
  obtain ⟨u, v, k0, k1, f0, f1⟩ := TT.facts
  have TT := Lib.hid TT
  have X2 := Lib.hid (X1.out.trans x2)
  clear x2
  go_wp2_with fail
  have HH := set2_heap TT.out (.string s1) (.string s2)
  have XX := X2.out.set2 (g := w.heap.size) (Nat.le_refl _) (.string s1) (.string s2)
  change bodyPost _ _ _ _ _ (N.set2 _ w.heap.size (.string s1) (.string s2))
  obtain ⟨hc0, hc1⟩ := cells_of HH
  generalize N.set2 _ w.heap.size (.string s1) (.string s2) = W3 at *
  exact bodyPost_ret (v := .agg #[.string s1, .string s2]) (by simp [results, Try.results16, go_sem, hc0, hc1]) rfl ⟨rfl, XX⟩
set_option maxHeartbeats 1600000 in
set_option maxRecDepth 100000 in
theorem specFirstDesk_calls (w : World) :
    Calls Try.prog 15 #[] w fun e w' => e = .returned (.agg #[.string (tx (gen 0).1), .string (tx (gen 0).2)]) ∧ Ext w w' := by
  have X0 := Lib.hid ((Ext.refl w).alloc (.cells #[.string ⟨#[]⟩, .string ⟨#[]⟩] 23))
  have t0 := Two.new w (.string ⟨#[]⟩) (.string ⟨#[]⟩) 23 rfl
  have C1 := Lib.hid (fun W => prGenerator_calls 0 (by omega) W)
  generalize tx (gen 0).1 = s1 at *
  generalize tx (gen 0).2 = s2 at *
  go_enter Try.func15, Try.ntmps15
  go_wp2_with fail
  generalize w.alloc (.cells #[.string ⟨#[]⟩, .string ⟨#[]⟩] 23) = W at *
  refine (C1.out _).mono ?_
  rintro e w2 ⟨rfl, x2⟩
  have TT := t0.ext x2
  obtain ⟨u, v, k0, k1, f0, f1⟩ := TT.facts
  have TT := Lib.hid TT
  have X2 := Lib.hid (X0.out.trans x2)
  clear x2 t0
  go_wp2_with fail
  have HH := set2_heap TT.out (.string s1) (.string s2)
  have XX := X2.out.set2 (g := w.heap.size) (Nat.le_refl _) (.string s1) (.string s2)
  change bodyPost _ _ _ _ _ (N.set2 _ w.heap.size (.string s1) (.string s2))
  obtain ⟨hc0, hc1⟩ := cells_of HH
  generalize N.set2 _ w.heap.size (.string s1) (.string s2) = W3 at *
  exact bodyPost_ret (v := .agg #[.string s1, .string s2]) (by simp [results, Try.results15, go_sem, hc0, hc1]) rfl ⟨rfl, XX⟩
set_option maxHeartbeats 1600000 in
set_option maxRecDepth 100000 in
theorem walk_FnExactFirstDesk (w : World) : Calls Try.prog 3 #[] w fun e w' => e = .returned (.bool true) ∧ Ext w w' := by
  have C1 := Lib.hid specFirstDesk_calls
  have C2 := Lib.hid implFirstDesk_calls
  generalize tx (gen 0).1 = x at *
  generalize tx (gen 0).2 = y at *
  go_enter Try.func3, Try.ntmps3
  go_wp2_with fail
  refine (C1.out _).mono ?_
  rintro e w3 ⟨rfl, x3⟩
  have X3 := Lib.hid (x3.alloc (.cells #[.string x, .string y] 23))
  obtain ⟨d0, d1⟩ := cells_of (heap_alloc_new w3 (.cells #[.string x, .string y] 23))
  clear x3
  go_wp2_with fail
  generalize w3.alloc (.cells #[.string x, .string y] 23) = W3 at *
  refine (C2.out _).mono ?_
  rintro e w5 ⟨rfl, x5⟩
  have d0 := (x5.alloc (.cells #[.string x, .string y] 23)).cell d0
  have d1 := (x5.alloc (.cells #[.string x, .string y] 23)).cell d1
  obtain ⟨f0, f1⟩ := cells_of (heap_alloc_new w5 (.cells #[.string x, .string y] 23))
  have X5 := Lib.hid (X3.out.trans (x5.alloc (.cells #[.string x, .string y] 23)))
  clear x5
  go_wp2_with fail
  generalize w5.alloc (.cells #[.string x, .string y] 23) = W5 at *
  refine (eqPair_calls x y _).mono ?_
  rintro e w6 ⟨rfl, x6⟩
  have X6 := Lib.hid (X5.out.trans x6)
  clear x6
  go_wp2_with fail
  go_ret
  exact ⟨rfl, X6.out⟩
end Go.Proofs.Ytpjpnfmbdknoaaa.N
