import Derived.Test.YtpmmajfdcicjiaaBa
import Derived.Test.YtpmmajfdcicjiaaPu
import Derived.Test.YtpmmajfdcicjiaaSl
import Derived.Test.YtpmmajfdcicjiaaProg
import Derived.Test.YtpmmajfdcicjiaaTn
import Derived.Test.YtpmmajfdcicjiaaTs
import Derived.Test.YtpmmajfdcicjiaaPp
import Derived.Test.YtpmmajfdcicjiaaPx
import Derived.Test.YtpmmajfdcicjiaaWl
import Derived.Test.YtpmmajfdcicjiaaTp
import Derived.Test.YtpmmajfdcicjiaaTq
import Derived.Test.YtpmmajfdcicjiaaTr
import Derived.Test.YtpmmajfdcicjiaaTu
import Derived.Test.YtpmmajfdcicjiaaSx
import Derived.Test.YtpmmajfdcicjiaaSy
import Derived.Deep.LoopGhost
import Derived.StillTailTactics
import Derived.Deep.QuietTactic
import Derived.BigQuiet
/- Pairs shifted and put side by side, as the reference has them. -/
namespace Go.Proofs.Ytpmmajfdcicjiaa.N
open Go.RowKit
set_option linter.unusedVariables false
set_option linter.unusedSimpArgs false

set_option maxHeartbeats 3200000 in
set_option maxRecDepth 100000 in
theorem prIf_calls (A B : Tr) (hc : A.carets = B.carets) (w : World) :
    Calls Try.prog 135 #[.agg #[.string (tx A), .string (tx B)]] w fun e w' => e = .returned (ifP (A, B)) ∧ Ext w w' := by
  obtain ⟨X2, t0⟩ := boxS_facts w (tx A) (tx B) (.string ⟨#[]⟩) (.string ⟨#[]⟩) 25
  have X2 := Lib.hid X2
  have B0 : Hid (((w.alloc (.cells #[.string (tx A), .string (tx B)] 25)).alloc (.cells #[.string ⟨#[]⟩, .string ⟨#[]⟩] 25)).heap[w.heap.size]? = some (.cells #[.string (tx A), .string (tx B)] 25)) := ((Ext.refl _).alloc _).at (heap_alloc_new w _)
  by_cases hB : B.carets ≤ 8
  · have E : ifP (A, B) = .tuple #[.agg #[.string (tx A), .string (tx B)], .bool true] := if_pos (show A.carets ≤ 8 by omega)
    have C1 := Lib.hid (fun W => prGood_yes A B hc hB W)
    rw [E]
    clear hc hB E
    go_enter Try.func135, Try.ntmps135
    go_wp2_with fail
    generalize (w.alloc (.cells #[.string (tx A), .string (tx B)] 25)).alloc (.cells #[.string ⟨#[]⟩, .string ⟨#[]⟩] 25) = W at *
    refine (C1.out _).mono ?_
    rintro e w1 ⟨rfl, x1⟩
    have T1 := t0.ext x1
    obtain ⟨u, v, k0, k1, f0, f1⟩ := T1.facts
    obtain ⟨c0, c1⟩ := cells_of (x1.at B0.out)
    have T1 := Lib.hid T1
    have X1 := Lib.hid (X2.out.trans x1)
    clear t0 x1
    go_wp2_with fail
    have HH := set2_heap T1.out (.string (tx A)) (.string (tx B))
    have XX := X1.out.set2 (g := w.heap.size + 1) (by omega) (.string (tx A)) (.string (tx B))
    change bodyPost _ _ _ _ _ (N.set2 _ (w.heap.size + 1) (.string (tx A)) (.string (tx B)))
    obtain ⟨hc0, hc1⟩ := cells_of HH
    generalize N.set2 _ (w.heap.size + 1) (.string (tx A)) (.string (tx B)) = W3 at *
    exact bodyPost_ret (v := .tuple #[.agg #[.string (tx A), .string (tx B)], .bool true]) (by simp [results, Try.results135, go_sem, hc0, hc1]) rfl ⟨rfl, XX⟩
  · have E : ifP (A, B) = .tuple #[emptyP, .bool false] := if_neg (show ¬ A.carets ≤ 8 by omega)
    have NG : ¬ Good (tx A) (tx B) := by
      rintro ⟨A', B', h1, h2, _, h4⟩
      obtain rfl := tx_inj h2
      exact hB h4
    have C1 := Lib.hid (fun W => prGood_no _ _ NG W)
    rw [E]
    clear hc hB E NG
    go_enter Try.func135, Try.ntmps135
    go_wp2_with fail
    generalize (w.alloc (.cells #[.string (tx A), .string (tx B)] 25)).alloc (.cells #[.string ⟨#[]⟩, .string ⟨#[]⟩] 25) = W at *
    refine (C1.out _).mono ?_
    rintro e w1 ⟨rfl, x1⟩
    have T1 := t0.ext x1
    obtain ⟨u, v, k0, k1, f0, f1⟩ := T1.facts
    have T1 := Lib.hid T1
    have X1 := Lib.hid (X2.out.trans x1)
    clear t0 x1
    go_wp2_with fail
    have HH := set2_heap T1.out (.string ⟨#[]⟩) (.string ⟨#[]⟩)
    have XX := X1.out.set2 (g := w.heap.size + 1) (by omega) (.string ⟨#[]⟩) (.string ⟨#[]⟩)
    change bodyPost _ _ _ _ _ (N.set2 _ (w.heap.size + 1) (.string ⟨#[]⟩) (.string ⟨#[]⟩))
    obtain ⟨hc0, hc1⟩ := cells_of HH
    generalize N.set2 _ (w.heap.size + 1) (.string ⟨#[]⟩) (.string ⟨#[]⟩) = W3 at *
    exact bodyPost_ret (v := .tuple #[emptyP, .bool false]) (by simp [results, Try.results135, go_sem, hc0, hc1, emptyP]) rfl ⟨rfl, XX⟩
theorem trOf_tree (l r : Tr) (hl : l.carets < 1000000) (hr : r.carets < 1000000) (w : World) :
    Calls Try.prog 181 #[.string (tx l), .string (tx r)] w fun e w' => e = .returned (.string (tx (.node l r))) ∧ w = w' := by
  rw [tx_node]
  exact trOf_calls (tx l) (tx r) (by have := l.txt_length; show l.txt.length ≤ _; omega) (by have := r.txt_length; show r.txt.length ≤ _; omega) w

