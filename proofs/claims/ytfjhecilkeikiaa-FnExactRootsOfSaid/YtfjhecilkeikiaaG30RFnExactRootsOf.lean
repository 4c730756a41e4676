import Derived.Test.YtfjhecilkeikiaaG1RFnExactRootsOf
import Derived.Test.YtfjhecilkeikiaaG2RFnExactRootsOf
import Derived.Test.YtfjhecilkeikiaaProg
import Derived.Test.YtfjhecilkeikiaaG6RFnExactRootsOf
import Derived.Test.YtfjhecilkeikiaaG7RFnExactRootsOf
import Derived.Test.YtfjhecilkeikiaaG8RFnExactRootsOf
import Derived.Test.YtfjhecilkeikiaaG5RFnExactRootsOf
import Derived.Test.YtfjhecilkeikiaaG3RFnExactRootsOf
import Derived.Test.YtfjhecilkeikiaaG11RFnExactRootsOf
import Derived.Test.YtfjhecilkeikiaaG14RFnExactRootsOf
import Derived.Test.YtfjhecilkeikiaaG10RFnExactRootsOf
import Derived.Test.YtfjhecilkeikiaaG12RFnExactRootsOf
import Derived.Test.YtfjhecilkeikiaaG13RFnExactRootsOf
import Derived.Test.YtfjhecilkeikiaaG15RFnExactRootsOf
import Derived.Test.YtfjhecilkeikiaaG16RFnExactRootsOf
import Derived.Test.YtfjhecilkeikiaaG18RFnExactRootsOf
import Derived.Test.YtfjhecilkeikiaaG19RFnExactRootsOf
import Derived.Test.YtfjhecilkeikiaaG20RFnExactRootsOf
import Derived.Test.YtfjhecilkeikiaaG21RFnExactRootsOf
import Derived.Test.YtfjhecilkeikiaaG22RFnExactRootsOf
import Derived.Test.YtfjhecilkeikiaaG23RFnExactRootsOf
import Derived.Test.YtfjhecilkeikiaaG24RFnExactRootsOf
import Derived.Test.YtfjhecilkeikiaaG25RFnExactRootsOf
import Derived.Test.YtfjhecilkeikiaaG26RFnExactRootsOf
import Derived.Test.YtfjhecilkeikiaaG29RFnExactRootsOf
import Derived.Deep.LoopGhost
import Derived.Deep.RegionHeld3
import Derived.Deep.QuietTactic
import Derived.BigQuiet
/- RootsOf: the refusals, and the law. -/
namespace Go.Proofs.Ytfjhecilkeikiaa.N
open Go.RowKit
set_option linter.unusedVariables false
set_option linter.unusedSimpArgs false

set_option maxHeartbeats 3200000 in
theorem specRO_no (s t : ByteArray) (n : Int) (h : ¬ (Good s t ∧ 2 ≤ n ∧ n ≤ 4)) (w : World) : Calls Try.prog 28 #[.agg #[.string s, .string t], .int .i64 n] w (GivesPS w [] false) := by
  have X0 := Lib.hid ((Ext.refl w).alloc (.cells #[.string s, .string t] 28))
  have CI := Lib.hid (fun W => l1In_calls n 2 4 W)
  by_cases hg : Good s t
  · have hr : ¬ (2 ≤ n ∧ n ≤ 4) := fun k => h ⟨hg, k⟩
    obtain ⟨A, B, rfl, rfl, h1, h2⟩ := hg
    have CG := Lib.hid (fun W => prGood_yes A B h1 h2 W)
    rw [decide_eq_false hr] at CI
    clear h h1 h2 hr
    generalize tx A = s at *
    generalize tx B = t at *
    go_enter Try.func28, Try.ntmps28
    go_wp2_with fail
    generalize w.alloc (.cells #[.string s, .string t] 28) = W at *
    refine (CG.out _).mono ?_
    rintro e w1 ⟨rfl, x1⟩
    have X1 := Lib.hid (X0.out.trans x1)
    clear x1
    go_wp2_with fail
    refine (CI.out _).mono ?_
    rintro e w0 ⟨rfl, rfl⟩
    go_wp2_with fail
    go_ret2
    exact ⟨_, rfl, World.ownsRow_nil _ _ _ _, X1.out⟩
  · have CG := Lib.hid (fun W => prGood_no s t hg W)
    clear h hg
    go_enter Try.func28, Try.ntmps28
    go_wp2_with fail
    generalize w.alloc (.cells #[.string s, .string t] 28) = W at *
    refine (CG.out _).mono ?_
    rintro e w1 ⟨rfl, x1⟩
    have X1 := Lib.hid (X0.out.trans x1)
    clear x1
    go_wp2_with fail
    go_ret2
    exact ⟨_, rfl, World.ownsRow_nil _ _ _ _, X1.out⟩

set_option maxHeartbeats 3200000 in
theorem implRO_no (s t : ByteArray) (n : Int) (h : ¬ (Good s t ∧ 2 ≤ n ∧ n ≤ 4)) (w : World) : Calls Try.prog 29 #[.agg #[.string s, .string t], .int .i64 n] w (GivesPS w [] false) := by
  have X0 := Lib.hid ((Ext.refl w).alloc (.cells #[.string s, .string t] 28))
  by_cases hg : Good s t
  · have hr : ¬ (2 ≤ n ∧ n ≤ 4) := fun k => h ⟨hg, k⟩
    obtain ⟨A, B, rfl, rfl, h1, h2⟩ := hg
    have CG := Lib.hid (fun W => pairOf_yes A B h1 h2 W)
    clear h h1 h2
    generalize tx A = s at *
    generalize tx B = t at *
    by_cases n0 : n < 2
    · clear hr
      go_enter Try.func29, Try.ntmps29
      go_wp2_with fail
      generalize w.alloc (.cells #[.string s, .string t] 28) = W at *
      refine (CG.out _).mono ?_
      rintro e w1 ⟨pa, pb, rfl, ra, rb, x1⟩
      have X1 := Lib.hid ((X0.out.trans x1).alloc (.cells #[.pointer pa, .pointer pb] 48))
      clear x1 ra rb
      go_wp2_with fail
      go_ret2
      exact ⟨_, rfl, World.ownsRow_nil _ _ _ _, X1.out⟩
    · have n3 : 4 < n := by omega
      have n1 : 2 ≤ n := by omega
      clear hr
      go_enter Try.func29, Try.ntmps29
      go_wp2_with fail
      generalize w.alloc (.cells #[.string s, .string t] 28) = W at *
      refine (CG.out _).mono ?_
      rintro e w1 ⟨pa, pb, rfl, ra, rb, x1⟩
      have X1 := Lib.hid ((X0.out.trans x1).alloc (.cells #[.pointer pa, .pointer pb] 48))
      clear x1 ra rb
      go_wp2_with fail
      go_ret2
      exact ⟨_, rfl, World.ownsRow_nil _ _ _ _, X1.out⟩
  · have CG := Lib.hid (fun W => pairOf_no s t hg W)
    clear h hg
    go_enter Try.func29, Try.ntmps29
    go_wp2_with fail
    generalize w.alloc (.cells #[.string s, .string t] 28) = W at *
    refine (CG.out _).mono ?_
    rintro e w1 ⟨pa, pb, rfl, x1⟩
    have X1 := Lib.hid ((X0.out.trans x1).alloc (.cells #[.pointer pa, .pointer pb] 48))
    clear x1
    go_wp2_with fail
    go_ret2
    exact ⟨_, rfl, World.ownsRow_nil _ _ _ _, X1.out⟩

theorem both_RO (s t : ByteArray) (n : Int) : ∃ (xs : List (ByteArray × ByteArray)) (b : Bool), xs.length < 10000 ∧ (∀ w, Calls Try.prog 28 #[.agg #[.string s, .string t], .int .i64 n] w (GivesPS w xs b)) ∧ (∀ w, Calls Try.prog 29 #[.agg #[.string s, .string t], .int .i64 n] w (GivesPS w xs b)) := by
  by_cases h : Good s t ∧ 2 ≤ n ∧ n ≤ 4
  · obtain ⟨⟨A, B, rfl, rfl, h1, h2⟩, h3, h4⟩ := h
    obtain ⟨m, rfl⟩ : ∃ m : Nat, n = m := ⟨n.toNat, by omega⟩
    refine ⟨_, _, ?_, specRO_yes A B h1 h2 m (by omega) (by omega), implRO_yes A B h1 h2 m (by omega) (by omega)⟩
    rw [tps_length]
    have h5 := List.length_filter_le (rootB (A, B) m) (smallP 3)
    have h6 := smallP_le (3 + 1) (by omega)
    have e : (List.range (3 + 1)).flatMap prs = smallP 3 := rfl
    rw [e] at h6
    omega
  · exact ⟨[], false, by simp, specRO_no s t n h, implRO_no s t n h⟩
set_option maxHeartbeats 6400000 in
set_option maxRecDepth 100000 in
theorem walk_FnExactRootsOf (s t : ByteArray) (hs : s.size ≤ maxLen) (ht : t.size ≤ maxLen) (n : Int) (hn : (Lit.int IntKind.i64 n).wf = true) (w : World) :
    Calls Try.prog 8 #[.agg #[.string s, .string t], .int .i64 n] w fun e w' => e = .returned (.bool true) ∧ Ext w w' := by
  obtain ⟨xs, b, LN, C1, C2⟩ := both_RO s t n
  have LN := Lib.hid LN
  have C1 := Lib.hid C1
  have C2 := Lib.hid C2
  have X0 := Lib.hid ((Ext.refl w).alloc (.cells #[.string s, .string t] 23))
  have C3 := Lib.hid (fun w => szPair_calls s t 1048576 (by omega) hs ht w)
  have C4 := Lib.hid (fun w => toPair_calls s t w)
  obtain ⟨c0, c1⟩ := cells_of (heap_alloc_new w (.cells #[.string s, .string t] 23))
  clear hs ht hn
  go_enter Try.func8, Try.ntmps8
  go_wp2_with fail
  generalize w.alloc (.cells #[.string s, .string t] 23) = W at *
  refine (C3.out _).mono ?_
  rintro e w1 ⟨r, rfl, hr, x1⟩
  have c0 := x1.cell c0
  have c1 := x1.cell c1
  have X1 := Lib.hid (X0.out.trans x1)
  clear x1 hr
  by_cases hr0 : r < 0
  · go_wp2_with fail
    go_ret
    exact ⟨rfl, X1.out⟩
  go_wp2_with fail
  refine (C4.out _).mono ?_
  rintro e w2 ⟨rfl, x2⟩
  have c0 := x2.cell c0
  have c1 := x2.cell c1
  have X2 := Lib.hid (X1.out.trans x2)
  clear x2
  go_wp2_with fail
  refine (C1.out _).mono ?_
  rintro e w6 ⟨v1, rfl, o1, x6⟩
  have c0 := x6.cell c0
  have c1 := x6.cell c1
  have E0 := Lib.hid c0
  have E1 := Lib.hid c1
  have X3 := Lib.hid (X2.out.trans x6)
  have O1 := Lib.hid o1
  clear o1 x6
  go_wp2_with fail
  refine (C4.out _).mono ?_
  rintro e w5 ⟨rfl, x5⟩
  have c0 := x5.cell c0
  have c1 := x5.cell c1
  go_wp2_with fail
  refine (C2.out _).mono ?_
  rintro e w7 ⟨v2, rfl, o2, x7⟩
  have c0 := x7.cell c0
  have c1 := x7.cell c1
  have X67 := Lib.hid (x5.trans x7)
  have O2 := Lib.hid (row_mono o2 x5.size)
  clear o2 x5 x7
  cases b
  all_goals
    go_wp2_with fail
    refine (eqPairS_calls xs (by have := LN.out; omega) _ _ v2 v1 _ O2.out (row_ext O1.out X67.out)).mono ?_
    rintro e w8 ⟨rfl, x8⟩
    have c0 := x8.cell c0
    have c1 := x8.cell c1
    go_wp2_with fail
    refine (markPairS_calls w6.heap.size xs.length (psT xs) 1 (by omega) (by have := LN.out; omega) v2 _ (row_ext O2.out x8)).mono ?_
    rintro e w9 ⟨rfl, o4, g4⟩
    obtain ⟨q, hq⟩ : ∃ q : Int, ((1 + 2 * xs.length : Nat) : Int) = q := ⟨_, rfl⟩
    have p5 : (0 : Int) ≤ q := by omega
    have HQ := Lib.hid hq
    rw [hq]
    clear hq
    have X69 := Lib.hid ((X67.out.trans x8).grown g4 (fun k hk => (World.ownsRow.lt O2.out k hk).1))
    have R1 := Lib.hid (row_ext O1.out X69.out)
    have O4 := Lib.hid o4
    clear o4 g4 x8 c0 c1
    go_wp2_with fail
    refine (heldPairS_calls _ xs.length 1 (by omega) (by have := LN.out; omega) v2 _ O4.out).mono ?_
    rintro e w10 ⟨rfl, x10⟩
    have X610 := Lib.hid (X69.out.trans x10)
    have R1 := Lib.hid (row_ext R1.out x10)
    have O4 := Lib.hid (row_ext O4.out x10)
    have c0 := X610.out.cell E0.out
    have c1 := X610.out.cell E1.out
    clear x10
    rw [HQ.out]
    go_wp2_with fail
    refine (C4.out _).mono ?_
    rintro e w14 ⟨rfl, x14⟩
    have c0 := x14.cell c0
    have c1 := x14.cell c1
    go_wp2_with fail
    refine (C2.out _).mono ?_
    rintro e w11 ⟨v6, rfl, o6, x5⟩
    have x15 := x14.trans x5
    have R1 := Lib.hid (row_ext R1.out x15)
    have O4 := Lib.hid (row_ext O4.out x15)
    have O6 := Lib.hid o6
    have X611 := Lib.hid (X610.out.trans x15)
    clear x5 x14 x15 o6 c0 c1
    go_wp2_with fail
    refine (eqPairS_calls xs (by have := LN.out; omega) _ _ v6 v1 _ O6.out R1.out).mono ?_
    rintro e w12 ⟨rfl, x12⟩
    have O4 := Lib.hid (row_ext O4.out x12)
    have X612 := Lib.hid (X611.out.trans x12)
    clear x12
    go_wp2_with fail
    refine (heldPairS_calls _ xs.length 1 (by omega) (by have := LN.out; omega) v2 _ O4.out).mono ?_
    rintro e w13 ⟨rfl, x13⟩
    have X13 := Lib.hid ((X3.out.trans X612.out).trans x13)
    clear x13
    rw [HQ.out]
    go_wp2_with fail
    go_ret
    exact ⟨rfl, X13.out⟩
end Go.Proofs.Ytfjhecilkeikiaa.N
