import Derived.Test.YtfkjjmmoipcddaaBa
import Derived.Test.YtfkjjmmoipcddaaPu
import Derived.Test.YtfkjjmmoipcddaaSl
import Derived.Test.YtfkjjmmoipcddaaProg
import Derived.Test.YtfkjjmmoipcddaaWl
import Derived.Test.YtfkjjmmoipcddaaTp
import Derived.Test.YtfkjjmmoipcddaaTr
import Derived.Test.YtfkjjmmoipcddaaTu
import Derived.Deep.LoopGhost
import Derived.Deep.QuietTactic
import Derived.BigQuiet
/- Pairs at the laws' edge: their size, their copies, their likeness. -/
namespace Go.Proofs.Ytfkjjmmoipcddaa.N
open Go.RowKit
set_option linter.unusedVariables false
set_option linter.unusedSimpArgs false

set_option maxHeartbeats 1600000 in
theorem szPair_calls (s t : ByteArray) (n : Int) (hn : 0 ≤ n ∧ n ≤ 1048576) (hs : s.size ≤ maxLen) (ht : t.size ≤ maxLen) (w : World) :
    Calls Try.prog 23 #[.agg #[.string s, .string t], .int .i64 n] w fun e w' => ∃ r : Int, e = .returned (.int .i64 r) ∧ Hid (-1 ≤ r ∧ r ≤ 1048576 ∧ (0 ≤ r → s.size ≤ 1048576 ∧ t.size ≤ 1048576)) ∧ Ext w w' := by
  unfold maxLen at hs ht
  have X1 := Lib.hid ((Ext.refl w).alloc (.cells #[.string s, .string t] 33))
  by_cases h1 : n - s.size < 0
  · go_enter Try.func23, Try.ntmps23
    go_wp2_with fail
    go_ret
    exact ⟨-1, rfl, ⟨by omega, by omega, fun h => by omega⟩, X1.out⟩
  · by_cases h2 : n - s.size - t.size < 0
    · go_enter Try.func23, Try.ntmps23
      go_wp2_with fail
      go_ret
      exact ⟨-1, rfl, ⟨by omega, by omega, fun h => by omega⟩, X1.out⟩
    · go_enter Try.func23, Try.ntmps23
      go_wp2_with fail
      go_ret
      exact ⟨n - s.size - t.size, rfl, ⟨by omega, by omega, fun h => ⟨by omega, by omega⟩⟩, X1.out⟩

set_option maxHeartbeats 1600000 in
theorem toPair_calls (s t : ByteArray) (w : World) :
    Calls Try.prog 25 #[.agg #[.string s, .string t]] w fun e w' => e = .returned (.agg #[.string s, .string t]) ∧ Ext w w' := by
  have X3 := Lib.hid ((((Ext.refl w).alloc (.cells #[.string s, .string t] 33)).alloc (.cells #[.string s, .string t] 29)).alloc (.cells #[.string s, .string t] 29))
  have Y3 := Lib.hid (((Ext.refl w).alloc (.cells #[.string s, .string t] 33)))
  have HH := ((Ext.refl _).alloc (.cells #[.string s, .string t] 29)).at (heap_alloc_new (w.alloc (.cells #[.string s, .string t] 33)) (.cells #[.string s, .string t] 29))
  rw [show (w.alloc (.cells #[.string s, .string t] 33)).heap.size = w.heap.size + 1 by simp] at HH
  obtain ⟨hc0, hc1⟩ := cells_of HH
  go_enter Try.func25, Try.ntmps25
  go_wp2_with fail
  exact bodyPost_ret (v := .agg #[.string s, .string t]) (by simp [results, Try.results25, go_sem, hc0, hc1]) rfl ⟨rfl, X3.out⟩

set_option maxHeartbeats 1600000 in
theorem eqPair_calls (s t : ByteArray) (w : World) :
    Calls Try.prog 22 #[.agg #[.string s, .string t], .agg #[.string s, .string t]] w fun e w' => e = .returned (.bool true) ∧ Ext w w' := by
  have X2 := Lib.hid (((Ext.refl w).alloc (.cells #[.string s, .string t] 29)).alloc (.cells #[.string s, .string t] 29))
  go_enter Try.func22, Try.ntmps22
  go_wp2_with fail
  go_ret
  exact ⟨rfl, X2.out⟩
end Go.Proofs.Ytfkjjmmoipcddaa.N
