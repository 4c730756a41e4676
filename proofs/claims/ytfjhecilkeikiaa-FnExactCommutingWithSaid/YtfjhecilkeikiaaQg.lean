import Derived.Test.YtfjhecilkeikiaaBa
import Derived.Test.YtfjhecilkeikiaaPu
import Derived.Test.YtfjhecilkeikiaaSl
import Derived.Test.YtfjhecilkeikiaaProg
import Derived.Test.YtfjhecilkeikiaaWl
import Derived.Test.YtfjhecilkeikiaaWp
import Derived.Test.YtfjhecilkeikiaaWt
import Derived.Test.YtfjhecilkeikiaaT3
import Derived.Test.YtfjhecilkeikiaaTs
import Derived.Test.YtfjhecilkeikiaaTn
import Derived.Test.YtfjhecilkeikiaaTr
import Derived.Test.YtfjhecilkeikiaaTu
import Derived.Test.YtfjhecilkeikiaaTj
import Derived.Test.YtfjhecilkeikiaaTk
import Derived.Test.YtfjhecilkeikiaaSj
import Derived.Test.YtfjhecilkeikiaaPh
import Derived.Test.YtfjhecilkeikiaaSy
import Derived.Test.YtfjhecilkeikiaaSz
import Derived.Test.YtfjhecilkeikiaaSx
import Derived.Test.YtfjhecilkeikiaaPp
import Derived.Test.YtfjhecilkeikiaaPn
import Derived.Test.YtfjhecilkeikiaaVt
import Derived.Test.YtfjhecilkeikiaaSr
import Derived.Test.YtfjhecilkeikiaaQl
import Derived.Test.YtfjhecilkeikiaaPt
import Derived.Test.YtfjhecilkeikiaaQp
import Derived.Test.YtfjhecilkeikiaaQs
import Derived.Test.YtfjhecilkeikiaaQn
import Derived.Test.YtfjhecilkeikiaaQw
import Derived.Test.YtfjhecilkeikiaaQt
import Derived.Test.YtfjhecilkeikiaaQq
import Derived.Test.YtfjhecilkeikiaaQr
import Derived.Test.YtfjhecilkeikiaaQx
import Derived.Test.YtfjhecilkeikiaaQy
import Derived.Test.YtfjhecilkeikiaaQu
import Derived.Test.YtfjhecilkeikiaaSq
import Derived.Test.YtfjhecilkeikiaaQb
import Derived.Test.YtfjhecilkeikiaaQe
import Derived.Test.YtfjhecilkeikiaaQf
import Derived.Deep.LoopGhost
import Derived.Deep.RegionHeld3
import Derived.Deep.QuietTactic
import Derived.BigQuiet
/- CommutingWith: the refusals, and the law. -/
namespace Go.Proofs.Ytfjhecilkeikiaa.N
open Go.RowKit
set_option linter.unusedVariables false
set_option linter.unusedSimpArgs false

set_option maxHeartbeats 3200000 in
theorem specCW_no (s t : ByteArray) (n : Int) (h : ¬ (Good s t ∧ 0 ≤ n ∧ n ≤ 3)) (w : World) : Calls Try.prog 26 #[.agg #[.string s, .string t], .int .i64 n] w (GivesPS w [] false) := by
  have X0 := Lib.hid ((Ext.refl w).alloc (.cells #[.string s, .string t] 28))
  have CI := Lib.hid (fun W => l1In_calls n 0 3 W)
  by_cases hg : Good s t
  · have hr : ¬ (0 ≤ n ∧ n ≤ 3) := fun k => h ⟨hg, k⟩
    obtain ⟨A, B, rfl, rfl, h1, h2⟩ := hg
    have CG := Lib.hid (fun W => prGood_yes A B h1 h2 W)
    rw [decide_eq_false hr] at CI
    clear h h1 h2 hr
    generalize tx A = s at *
    generalize tx B = t at *
    go_enter Try.func26, Try.ntmps26
    go_wp2_with fail
    generalize w.alloc (.cells #[.string s, .string t] 28) = W at *
    refine (CG.out _).mono ?_
    rintro e w1 ⟨rfl, x1⟩
    have X1 := Lib.hid (X0.out.trans x1)
    clear x1
    go_wp2_with fail
    refine (CI.out _).mono ?_
    rintro e w0 ⟨rfl, rfl⟩
    go_wp2_with fail
    go_ret2
    exact ⟨_, rfl, World.ownsRow_nil _ _ _ _, X1.out⟩
  · have CG := Lib.hid (fun W => prGood_no s t hg W)
    clear h hg
    go_enter Try.func26, Try.ntmps26
    go_wp2_with fail
    generalize w.alloc (.cells #[.string s, .string t] 28) = W at *
    refine (CG.out _).mono ?_
    rintro e w1 ⟨rfl, x1⟩
    have X1 := Lib.hid (X0.out.trans x1)
    clear x1
    go_wp2_with fail
    go_ret2
    exact ⟨_, rfl, World.ownsRow_nil _ _ _ _, X1.out⟩

set_option maxHeartbeats 3200000 in
theorem implCW_no (s t : ByteArray) (n : Int) (h : ¬ (Good s t ∧ 0 ≤ n ∧ n ≤ 3)) (w : World) : Calls Try.prog 27 #[.agg #[.string s, .string t], .int .i64 n] w (GivesPS w [] false) := by
  have X0 := Lib.hid ((Ext.refl w).alloc (.cells #[.string s, .string t] 28))
  by_cases hg : Good s t
  · have hr : ¬ (0 ≤ n ∧ n ≤ 3) := fun k => h ⟨hg, k⟩
    obtain ⟨A, B, rfl, rfl, h1, h2⟩ := hg
    have CG := Lib.hid (fun W => pairOf_yes A B h1 h2 W)
    clear h h1 h2
    generalize tx A = s at *
    generalize tx B = t at *
    by_cases n0 : n < 0
    · clear hr
      go_enter Try.func27, Try.ntmps27
      go_wp2_with fail
      generalize w.alloc (.cells #[.string s, .string t] 28) = W at *
      refine (CG.out _).mono ?_
      rintro e w1 ⟨pa, pb, rfl, ra, rb, x1⟩
      have X1 := Lib.hid ((X0.out.trans x1).alloc (.cells #[.pointer pa, .pointer pb] 48))
      clear x1 ra rb
      go_wp2_with fail
      go_ret2
      exact ⟨_, rfl, World.ownsRow_nil _ _ _ _, X1.out⟩
    · have n3 : 3 < n := by omega
      have n1 : 0 ≤ n := by omega
      clear hr
      go_enter Try.func27, Try.ntmps27
      go_wp2_with fail
      generalize w.alloc (.cells #[.string s, .string t] 28) = W at *
      refine (CG.out _).mono ?_
      rintro e w1 ⟨pa, pb, rfl, ra, rb, x1⟩
      have X1 := Lib.hid ((X0.out.trans x1).alloc (.cells #[.pointer pa, .pointer pb] 48))
      clear x1 ra rb
      go_wp2_with fail
      go_ret2
      exact ⟨_, rfl, World.ownsRow_nil _ _ _ _, X1.out⟩
  · have CG := Lib.hid (fun W => pairOf_no s t hg W)
    clear h hg
    go_enter Try.func27, Try.ntmps27
    go_wp2_with fail
    generalize w.alloc (.cells #[.string s, .string t] 28) = W at *
    refine (CG.out _).mono ?_
    rintro e w1 ⟨pa, pb, rfl, x1⟩
    have X1 := Lib.hid ((X0.out.trans x1).alloc (.cells #[.pointer pa, .pointer pb] 48))
    clear x1
    go_wp2_with fail
    go_ret2
    exact ⟨_, rfl, World.ownsRow_nil _ _ _ _, X1.out⟩

theorem both_CW (s t : ByteArray) (n : Int) : ∃ (xs : List (ByteArray × ByteArray)) (b : Bool), xs.length < 10000 ∧ (∀ w, Calls Try.prog 26 #[.agg #[.string s, .string t], .int .i64 n] w (GivesPS w xs b)) ∧ (∀ w, Calls Try.prog 27 #[.agg #[.string s, .string t], .int .i64 n] w (GivesPS w xs b)) := by
  by_cases h : Good s t ∧ 0 ≤ n ∧ n ≤ 3
  · obtain ⟨⟨A, B, rfl, rfl, h1, h2⟩, h3, h4⟩ := h
    obtain ⟨m, rfl⟩ : ∃ m : Nat, n = m := ⟨n.toNat, by omega⟩
    refine ⟨_, _, ?_, specCW_yes A B h1 h2 m (by omega), implCW_yes A B h1 h2 m (by omega)⟩
    rw [tps_length]
    have h5 := List.length_filter_le (comm (A, B)) (smallP m)
    have h6 := smallP_le (m + 1) (by omega)
    have e : (List.range (m + 1)).flatMap prs = smallP m := rfl
    rw [e] at h6
    omega
  · exact ⟨[], false, by simp, specCW_no s t n h, implCW_no s t n h⟩
set_option maxHeartbeats 6400000 in
set_option maxRecDepth 100000 in
theorem walk_FnExactCommutingWith (s t : ByteArray) (hs : s.size ≤ maxLen) (ht : t.size ≤ maxLen) (n : Int) (hn : (Lit.int IntKind.i64 n).wf = true) (w : World) :
    Calls Try.prog 7 #[.agg #[.string s, .string t], .int .i64 n] w fun e w' => e = .returned (.bool true) ∧ Ext w w' := by
  obtain ⟨xs, b, LN, C1, C2⟩ := both_CW s t n
  have LN := Lib.hid LN
  have C1 := Lib.hid C1
  have C2 := Lib.hid C2
  have X0 := Lib.hid ((Ext.refl w).alloc (.cells #[.string s, .string t] 23))
  have C3 := Lib.hid (fun w => szPair_calls s t 1048576 (by omega) hs ht w)
  have C4 := Lib.hid (fun w => toPair_calls s t w)
  obtain ⟨c0, c1⟩ := cells_of (heap_alloc_new w (.cells #[.string s, .string t] 23))
  clear hs ht hn
  go_enter Try.func7, Try.ntmps7
  go_wp2_with fail
  generalize w.alloc (.cells #[.string s, .string t] 23) = W at *
  refine (C3.out _).mono ?_
  rintro e w1 ⟨r, rfl, hr, x1⟩
  have c0 := x1.cell c0
  have c1 := x1.cell c1
  have X1 := Lib.hid (X0.out.trans x1)
  clear x1 hr
  by_cases hr0 : r < 0
  · go_wp2_with fail
    go_ret
    exact ⟨rfl, X1.out⟩
  go_wp2_with fail
  refine (C4.out _).mono ?_
  rintro e w2 ⟨rfl, x2⟩
  have c0 := x2.cell c0
  have c1 := x2.cell c1
  have X2 := Lib.hid (X1.out.trans x2)
  clear x2
  go_wp2_with fail
  refine (C1.out _).mono ?_
  rintro e w6 ⟨v1, rfl, o1, x6⟩
  have c0 := x6.cell c0
  have c1 := x6.cell c1
  have E0 := Lib.hid c0
  have E1 := Lib.hid c1
  have X3 := Lib.hid (X2.out.trans x6)
  have O1 := Lib.hid o1
  clear o1 x6
  go_wp2_with fail
  refine (C4.out _).mono ?_
  rintro e w5 ⟨rfl, x5⟩
  have c0 := x5.cell c0
  have c1 := x5.cell c1
  go_wp2_with fail
  refine (C2.out _).mono ?_
  rintro e w7 ⟨v2, rfl, o2, x7⟩
  have c0 := x7.cell c0
  have c1 := x7.cell c1
  have X67 := Lib.hid (x5.trans x7)
  have O2 := Lib.hid (row_mono o2 x5.size)
  clear o2 x5 x7
  cases b
  all_goals
    go_wp2_with fail
    refine (eqPairS_calls xs (by have := LN.out; omega) _ _ v2 v1 _ O2.out (row_ext O1.out X67.out)).mono ?_
    rintro e w8 ⟨rfl, x8⟩
    have c0 := x8.cell c0
    have c1 := x8.cell c1
    go_wp2_with fail
    refine (markPairS_calls w6.heap.size xs.length (psT xs) 1 (by omega) (by have := LN.out; omega) v2 _ (row_ext O2.out x8)).mono ?_
    rintro e w9 ⟨rfl, o4, g4⟩
    obtain ⟨q, hq⟩ : ∃ q : Int, ((1 + 2 * xs.length : Nat) : Int) = q := ⟨_, rfl⟩
    have p5 : (0 : Int) ≤ q := by omega
    have HQ := Lib.hid hq
    rw [hq]
    clear hq
    have X69 := Lib.hid ((X67.out.trans x8).grown g4 (fun k hk => (World.ownsRow.lt O2.out k hk).1))
    have R1 := Lib.hid (row_ext O1.out X69.out)
    have O4 := Lib.hid o4
    clear o4 g4 x8 c0 c1
    go_wp2_with fail
    refine (heldPairS_calls _ xs.length 1 (by omega) (by have := LN.out; omega) v2 _ O4.out).mono ?_
    rintro e w10 ⟨rfl, x10⟩
    have X610 := Lib.hid (X69.out.trans x10)
    have R1 := Lib.hid (row_ext R1.out x10)
    have O4 := Lib.hid (row_ext O4.out x10)
    have c0 := X610.out.cell E0.out
    have c1 := X610.out.cell E1.out
    clear x10
    rw [HQ.out]
    go_wp2_with fail
    refine (C4.out _).mono ?_
    rintro e w14 ⟨rfl, x14⟩
    have c0 := x14.cell c0
    have c1 := x14.cell c1
    go_wp2_with fail
    refine (C2.out _).mono ?_
    rintro e w11 ⟨v6, rfl, o6, x5⟩
    have x15 := x14.trans x5
    have R1 := Lib.hid (row_ext R1.out x15)
    have O4 := Lib.hid (row_ext O4.out x15)
    have O6 := Lib.hid o6
    have X611 := Lib.hid (X610.out.trans x15)
    clear x5 x14 x15 o6 c0 c1
    go_wp2_with fail
    refine (eqPairS_calls xs (by have := LN.out; omega) _ _ v6 v1 _ O6.out R1.out).mono ?_
    rintro e w12 ⟨rfl, x12⟩
    have O4 := Lib.hid (row_ext O4.out x12)
    have X612 := Lib.hid (X611.out.trans x12)
    clear x12
    go_wp2_with fail
    refine (heldPairS_calls _ xs.length 1 (by omega) (by have := LN.out; omega) v2 _ O4.out).mono ?_
    rintro e w13 ⟨rfl, x13⟩
    have X13 := Lib.hid ((X3.out.trans X612.out).trans x13)
    clear x13
    rw [HQ.out]
    go_wp2_with fail
    go_ret
    exact ⟨rfl, X13.out⟩
end Go.Proofs.Ytfjhecilkeikiaa.N
