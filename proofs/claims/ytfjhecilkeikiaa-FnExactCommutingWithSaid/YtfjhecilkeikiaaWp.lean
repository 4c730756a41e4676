import Derived.Test.YtfjhecilkeikiaaBa
import Derived.Test.YtfjhecilkeikiaaPu
import Derived.Test.YtfjhecilkeikiaaSl
import Derived.Test.YtfjhecilkeikiaaProg
import Derived.Test.YtfjhecilkeikiaaWl
import Derived.Test.YtfjhecilkeikiaaTp
import Derived.Test.YtfjhecilkeikiaaTr
import Derived.Test.YtfjhecilkeikiaaTu
import Derived.Deep.LoopGhost
import Derived.Deep.QuietTactic
import Derived.BigQuiet
/- Pairs at the laws' edge: their size, their copies, their likeness. -/
namespace Go.Proofs.Ytfjhecilkeikiaa.N
open Go.RowKit
set_option linter.unusedVariables false
set_option linter.unusedSimpArgs false

set_option maxHeartbeats 1600000 in
theorem szPair_calls (s t : ByteArray) (n : Int) (hn : 0 ≤ n ∧ n ≤ 1048576) (hs : s.size ≤ maxLen) (ht : t.size ≤ maxLen) (w : World) :
    Calls Try.prog 10 #[.agg #[.string s, .string t], .int .i64 n] w fun e w' => ∃ r : Int, e = .returned (.int .i64 r) ∧ Hid (-1 ≤ r ∧ r ≤ 1048576 ∧ (0 ≤ r → s.size ≤ 1048576 ∧ t.size ≤ 1048576)) ∧ Ext w w' := by
  unfold maxLen at hs ht
  have X1 := Lib.hid ((Ext.refl w).alloc (.cells #[.string s, .string t] 23))
  by_cases h1 : n - s.size < 0
  · go_enter Try.func10, Try.ntmps10
    go_wp2_with fail
    go_ret
    exact ⟨-1, rfl, ⟨by omega, by omega, fun h => by omega⟩, X1.out⟩
  · by_cases h2 : n - s.size - t.size < 0
    · go_enter Try.func10, Try.ntmps10
      go_wp2_with fail
      go_ret
      exact ⟨-1, rfl, ⟨by omega, by omega, fun h => by omega⟩, X1.out⟩
    · go_enter Try.func10, Try.ntmps10
      go_wp2_with fail
      go_ret
      exact ⟨n - s.size - t.size, rfl, ⟨by omega, by omega, fun h => ⟨by omega, by omega⟩⟩, X1.out⟩

set_option maxHeartbeats 1600000 in
theorem toPair_calls (s t : ByteArray) (w : World) :
    Calls Try.prog 12 #[.agg #[.string s, .string t]] w fun e w' => e = .returned (.agg #[.string s, .string t]) ∧ Ext w w' := by
  have X3 := Lib.hid ((((Ext.refl w).alloc (.cells #[.string s, .string t] 23)).alloc (.cells #[.string s, .string t] 28)).alloc (.cells #[.string s, .string t] 28))
  have Y3 := Lib.hid (((Ext.refl w).alloc (.cells #[.string s, .string t] 23)))
  have HH := ((Ext.refl _).alloc (.cells #[.string s, .string t] 28)).at (heap_alloc_new (w.alloc (.cells #[.string s, .string t] 23)) (.cells #[.string s, .string t] 28))
  rw [show (w.alloc (.cells #[.string s, .string t] 23)).heap.size = w.heap.size + 1 by simp] at HH
  obtain ⟨hc0, hc1⟩ := cells_of HH
  go_enter Try.func12, Try.ntmps12
  go_wp2_with fail
  exact bodyPost_ret (v := .agg #[.string s, .string t]) (by simp [results, Try.results12, go_sem, hc0, hc1]) rfl ⟨rfl, X3.out⟩

set_option maxHeartbeats 1600000 in
theorem eqPair_calls (s t : ByteArray) (w : World) :
    Calls Try.prog 43 #[.agg #[.string s, .string t], .agg #[.string s, .string t]] w fun e w' => e = .returned (.bool true) ∧ Ext w w' := by
  have X2 := Lib.hid (((Ext.refl w).alloc (.cells #[.string s, .string t] 28)).alloc (.cells #[.string s, .string t] 28))
  go_enter Try.func43, Try.ntmps43
  go_wp2_with fail
  go_ret
  exact ⟨rfl, X2.out⟩
end Go.Proofs.Ytfjhecilkeikiaa.N
