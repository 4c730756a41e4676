import Derived.Test.YtfjhecilkeikiaaBa
import Derived.Test.YtfjhecilkeikiaaPu
import Derived.Test.YtfjhecilkeikiaaSl
import Derived.Test.YtfjhecilkeikiaaProg
import Derived.Test.YtfjhecilkeikiaaTn
import Derived.Test.YtfjhecilkeikiaaTs
import Derived.Test.YtfjhecilkeikiaaPp
import Derived.Test.YtfjhecilkeikiaaPg
import Derived.Test.YtfjhecilkeikiaaPh
import Derived.Test.YtfjhecilkeikiaaWl
import Derived.Test.YtfjhecilkeikiaaWt
import Derived.Test.YtfjhecilkeikiaaTp
import Derived.Test.YtfjhecilkeikiaaTr
import Derived.Test.YtfjhecilkeikiaaTu
import Derived.Test.YtfjhecilkeikiaaTv
import Derived.Test.YtfjhecilkeikiaaTw
import Derived.Test.YtfjhecilkeikiaaTg
import Derived.Test.YtfjhecilkeikiaaSx
import Derived.Test.YtfjhecilkeikiaaSy
import Derived.Test.YtfjhecilkeikiaaSz
import Derived.Test.YtfjhecilkeikiaaSw
import Derived.Test.YtfjhecilkeikiaaSg
import Derived.Test.YtfjhecilkeikiaaSj
import Derived.Test.YtfjhecilkeikiaaTk
import Derived.Test.YtfjhecilkeikiaaCl
import Derived.Test.YtfjhecilkeikiaaCw
import Derived.Test.YtfjhecilkeikiaaCx
import Derived.Test.YtfjhecilkeikiaaWp
import Derived.Test.YtfjhecilkeikiaaWq
import Derived.Test.YtfjhecilkeikiaaVt
import Derived.Test.YtfjhecilkeikiaaAc
import Derived.Test.YtfjhecilkeikiaaAw
import Derived.Test.YtfjhecilkeikiaaRw
import Derived.Test.YtfjhecilkeikiaaPn
import Derived.Test.YtfjhecilkeikiaaPt
import Derived.Test.YtfjhecilkeikiaaLc
import Derived.Test.YtfjhecilkeikiaaCz
import Derived.Test.YtfjhecilkeikiaaCy
import Derived.Test.YtfjhecilkeikiaaLe
import Derived.Test.YtfjhecilkeikiaaFu
import Derived.Deep.LoopGhost
import Derived.Deep.RegionHeld3
import Derived.Deep.QuietTactic
import Derived.StillTailTactics
import Derived.BigQuiet
import Derived.Deep.CutRange
/- FindConjugator and AreConjugateWithin, the program's; the reference's search. -/
namespace Go.Proofs.Ytfjhecilkeikiaa.N
open Go.RowKit
set_option linter.unusedVariables false
set_option linter.unusedSimpArgs false

theorem FoundV.own {w : World} {base : Nat} {v : Value} {s : Option (List Int)} (h : FoundV w base v s) : Own w base 3 v (ints (s.getD [])) := by
  cases s with
  | none => cases h; exact Own.nil _ _ _
  | some xs => exact h
theorem FoundV.mono {w : World} {base base' : Nat} {v : Value} {s : Option (List Int)} (h : FoundV w base v s) (hb : base' ≤ base) : FoundV w base' v s := by
  cases s with
  | none => exact h
  | some xs => exact Own.mono h hb
theorem boxes4 (w : World) (a b c d : Value) (t : TypeId) :
    Ext w ((w.alloc (.cells #[a, b] t)).alloc (.cells #[c, d] t)) ∧ ((w.alloc (.cells #[a, b] t)).alloc (.cells #[c, d] t)).cell? ⟨w.heap.size, 0, none⟩ = some a ∧ ((w.alloc (.cells #[a, b] t)).alloc (.cells #[c, d] t)).cell? ⟨w.heap.size, 1, none⟩ = some b ∧
    ((w.alloc (.cells #[a, b] t)).alloc (.cells #[c, d] t)).cell? ⟨w.heap.size + 1, 0, none⟩ = some c ∧ ((w.alloc (.cells #[a, b] t)).alloc (.cells #[c, d] t)).cell? ⟨w.heap.size + 1, 1, none⟩ = some d := by
  have h0 := ((Ext.refl _).alloc (.cells #[c, d] t)).at (heap_alloc_new w (.cells #[a, b] t))
  have h1 := heap_alloc_new (w.alloc (.cells #[a, b] t)) (.cells #[c, d] t)
  rw [show (w.alloc (.cells #[a, b] t)).heap.size = w.heap.size + 1 by simp] at h1
  exact ⟨((Ext.refl w).alloc _).alloc _, (cells_of h0).1, (cells_of h0).2, (cells_of h1).1, (cells_of h1).2⟩

set_option maxHeartbeats 3200000 in
set_option maxRecDepth 100000 in
theorem implFC_yes (A B C D : Tr) (hc : A.carets = B.carets) (hB : B.carets ≤ 8) (hd : C.carets = D.carets) (hD : D.carets ≤ 8) (n : Nat) (hn : n ≤ 4) (w : World) :
    Calls Try.prog 13 #[.agg #[.string (tx A), .string (tx B)], .agg #[.string (tx C), .string (tx D)], .int .i64 n] w fun e w' => ∃ v, e = .returned (.tuple #[v, .bool (foundF (conjugA (A, B) (ptx (red (C, D))) 0 (n + 1)))]) ∧ FoundV w' w.heap.size v (conjugA (A, B) (ptx (red (C, D))) 0 (n + 1)) ∧ Ext w w' := by
  obtain ⟨X2, c0, c1, c2, c3⟩ := boxes4 w (.string (tx A)) (.string (tx B)) (.string (tx C)) (.string (tx D)) 28
  have X2 := Lib.hid X2
  have C1 := Lib.hid (two_yes A B C D hc hB hd hD)
  have C2 := Lib.hid (fun p1 p2 p3 p4 W => conjugator_calls A B C D hc hB hd hD n hn p1 p2 p3 p4 W)
  have C0 := Lib.hid (fun W => isMost_calls n W)
  rw [decide_eq_true (show (0 : Int) ≤ n ∧ (n : Int) ≤ 4 by omega)] at C0
  generalize conjugA (A, B) (ptx (red (C, D))) 0 (n + 1) = R at *
  clear hc hB hd hD hn
  go_enter Try.func13, Try.ntmps13
  go_wp2_with fail
  generalize (w.alloc (.cells #[.string (tx A), .string (tx B)] 28)).alloc (.cells #[.string (tx C), .string (tx D)] 28) = W at *
  refine (C1.out _).mono ?_
  rintro e w1 ⟨pa, pb, pc, pd, rfl, rA, rB, rC, rD, x1⟩
  obtain ⟨xx, d0, d1, d2, d3⟩ := boxes4 w1 (.pointer pa) (.pointer pb) (.pointer pc) (.pointer pd) 48
  have X1 := Lib.hid (X2.out.trans (x1.trans xx))
  have RA := Lib.hid (rA.ext xx)
  have RB := Lib.hid (rB.ext xx)
  have RC := Lib.hid (rC.ext xx)
  have RD := Lib.hid (rD.ext xx)
  clear rA rB rC rD x1 xx
  go_wp2_with fail
  generalize (w1.alloc (.cells #[.pointer pa, .pointer pb] 48)).alloc (.cells #[.pointer pc, .pointer pd] 48) = W1 at *
  refine (C0.out _).mono ?_
  rintro e w2 ⟨rfl, rfl⟩
  go_wp2_with fail
  refine (C2.out pa pb pc pd _ RA.out RB.out RC.out RD.out).mono ?_
  rintro e w2 ⟨v, rfl, fv, x2⟩
  have F := Lib.hid (fv.mono X1.out.size)
  have X3 := Lib.hid (X1.out.trans x2)
  clear fv x2
  go_wp2_with fail
  go_ret2
  exact ⟨_, rfl, F.out, X3.out⟩
set_option maxHeartbeats 3200000 in
set_option maxRecDepth 100000 in
theorem implFC_no (s1 t1 s2 t2 : ByteArray) (m : Int) (h : ¬ ((Good s1 t1 ∧ Good s2 t2) ∧ 0 ≤ m ∧ m ≤ 4)) (w : World) :
    Calls Try.prog 13 #[.agg #[.string s1, .string t1], .agg #[.string s2, .string t2], .int .i64 m] w fun e w' => ∃ v, e = .returned (.tuple #[v, .bool (foundF none)]) ∧ FoundV w' w.heap.size v none ∧ Ext w w' := by
  obtain ⟨X2, c0, c1, c2, c3⟩ := boxes4 w (.string s1) (.string t1) (.string s2) (.string t2) 28
  have X2 := Lib.hid X2
  by_cases hg : Good s1 t1 ∧ Good s2 t2
  · have hm : ¬ (0 ≤ m ∧ m ≤ 4) := fun k => h ⟨hg, k⟩
    obtain ⟨⟨A, B, rfl, rfl, h1, h2⟩, ⟨C, D, rfl, rfl, h3, h4⟩⟩ := hg
    have C1 := Lib.hid (two_yes A B C D h1 h2 h3 h4)
    have C0 := Lib.hid (fun W => isMost_calls m W)
    rw [decide_eq_false hm] at C0
    clear h h1 h2 h3 h4 hm
    go_enter Try.func13, Try.ntmps13
    go_wp2_with fail
    generalize (w.alloc (.cells #[.string (tx A), .string (tx B)] 28)).alloc (.cells #[.string (tx C), .string (tx D)] 28) = W at *
    refine (C1.out _).mono ?_
    rintro e w1 ⟨pa, pb, pc, pd, rfl, rA, rB, rC, rD, x1⟩
    obtain ⟨xx, d0, d1, d2, d3⟩ := boxes4 w1 (.pointer pa) (.pointer pb) (.pointer pc) (.pointer pd) 48
    have X1 := Lib.hid (X2.out.trans (x1.trans xx))
    clear rA rB rC rD x1 xx
    go_wp2_with fail
    generalize (w1.alloc (.cells #[.pointer pa, .pointer pb] 48)).alloc (.cells #[.pointer pc, .pointer pd] 48) = W1 at *
    refine (C0.out _).mono ?_
    rintro e w2 ⟨rfl, rfl⟩
    go_wp2_with fail
    go_ret2
    exact ⟨_, rfl, rfl, X1.out⟩
  · have C1 := Lib.hid (two_no s1 t1 s2 t2 hg)
    clear hg h
    go_enter Try.func13, Try.ntmps13
    go_wp2_with fail
    generalize (w.alloc (.cells #[.string s1, .string t1] 28)).alloc (.cells #[.string s2, .string t2] 28) = W at *
    refine (C1.out _).mono ?_
    rintro e w1 ⟨pa, pb, pc, pd, rfl, x1⟩
    obtain ⟨xx, d0, d1, d2, d3⟩ := boxes4 w1 (.pointer pa) (.pointer pb) (.pointer pc) (.pointer pd) 48
    have X1 := Lib.hid (X2.out.trans (x1.trans xx))
    clear x1 xx
    go_wp2_with fail
    go_ret2
    exact ⟨_, rfl, rfl, X1.out⟩

set_option maxHeartbeats 3200000 in
set_option maxRecDepth 100000 in
theorem implAC_yes (A B C D : Tr) (hc : A.carets = B.carets) (hB : B.carets ≤ 8) (hd : C.carets = D.carets) (hD : D.carets ≤ 8) (n : Nat) (hn : n ≤ 4) (w : World) :
    Calls Try.prog 18 #[.agg #[.string (tx A), .string (tx B)], .agg #[.string (tx C), .string (tx D)], .int .i64 n] w fun e w' => e = .returned (.tuple #[.bool (foundF (conjugA (A, B) (ptx (red (C, D))) 0 (n + 1))), .bool true]) ∧ Ext w w' := by
  obtain ⟨X2, c0, c1, c2, c3⟩ := boxes4 w (.string (tx A)) (.string (tx B)) (.string (tx C)) (.string (tx D)) 28
  have X2 := Lib.hid X2
  have C1 := Lib.hid (two_yes A B C D hc hB hd hD)
  have C2 := Lib.hid (fun p1 p2 p3 p4 W => conjugator_calls A B C D hc hB hd hD n hn p1 p2 p3 p4 W)
  have C0 := Lib.hid (fun W => isMost_calls n W)
  rw [decide_eq_true (show (0 : Int) ≤ n ∧ (n : Int) ≤ 4 by omega)] at C0
  generalize conjugA (A, B) (ptx (red (C, D))) 0 (n + 1) = R at *
  clear hc hB hd hD hn
  go_enter Try.func18, Try.ntmps18
  go_wp2_with fail
  generalize (w.alloc (.cells #[.string (tx A), .string (tx B)] 28)).alloc (.cells #[.string (tx C), .string (tx D)] 28) = W at *
  refine (C1.out _).mono ?_
  rintro e w1 ⟨pa, pb, pc, pd, rfl, rA, rB, rC, rD, x1⟩
  obtain ⟨xx, d0, d1, d2, d3⟩ := boxes4 w1 (.pointer pa) (.pointer pb) (.pointer pc) (.pointer pd) 48
  have X1 := Lib.hid (X2.out.trans (x1.trans xx))
  have RA := Lib.hid (rA.ext xx)
  have RB := Lib.hid (rB.ext xx)
  have RC := Lib.hid (rC.ext xx)
  have RD := Lib.hid (rD.ext xx)
  clear rA rB rC rD x1 xx
  go_wp2_with fail
  generalize (w1.alloc (.cells #[.pointer pa, .pointer pb] 48)).alloc (.cells #[.pointer pc, .pointer pd] 48) = W1 at *
  refine (C0.out _).mono ?_
  rintro e w2 ⟨rfl, rfl⟩
  go_wp2_with fail
  refine (C2.out pa pb pc pd _ RA.out RB.out RC.out RD.out).mono ?_
  rintro e w2 ⟨v, rfl, fv, x2⟩
  have X3 := Lib.hid (X1.out.trans x2)
  clear fv x2
  go_wp2_with fail
  go_ret2
  exact ⟨rfl, X3.out⟩
set_option maxHeartbeats 3200000 in
set_option maxRecDepth 100000 in
theorem implAC_no (s1 t1 s2 t2 : ByteArray) (m : Int) (h : ¬ ((Good s1 t1 ∧ Good s2 t2) ∧ 0 ≤ m ∧ m ≤ 4)) (w : World) :
    Calls Try.prog 18 #[.agg #[.string s1, .string t1], .agg #[.string s2, .string t2], .int .i64 m] w fun e w' => e = .returned (.tuple #[.bool false, .bool false]) ∧ Ext w w' := by
  obtain ⟨X2, c0, c1, c2, c3⟩ := boxes4 w (.string s1) (.string t1) (.string s2) (.string t2) 28
  have X2 := Lib.hid X2
  by_cases hg : Good s1 t1 ∧ Good s2 t2
  · have hm : ¬ (0 ≤ m ∧ m ≤ 4) := fun k => h ⟨hg, k⟩
    obtain ⟨⟨A, B, rfl, rfl, h1, h2⟩, ⟨C, D, rfl, rfl, h3, h4⟩⟩ := hg
    have C1 := Lib.hid (two_yes A B C D h1 h2 h3 h4)
    have C0 := Lib.hid (fun W => isMost_calls m W)
    rw [decide_eq_false hm] at C0
    clear h h1 h2 h3 h4 hm
    go_enter Try.func18, Try.ntmps18
    go_wp2_with fail
    generalize (w.alloc (.cells #[.string (tx A), .string (tx B)] 28)).alloc (.cells #[.string (tx C), .string (tx D)] 28) = W at *
    refine (C1.out _).mono ?_
    rintro e w1 ⟨pa, pb, pc, pd, rfl, rA, rB, rC, rD, x1⟩
    obtain ⟨xx, d0, d1, d2, d3⟩ := boxes4 w1 (.pointer pa) (.pointer pb) (.pointer pc) (.pointer pd) 48
    have X1 := Lib.hid (X2.out.trans (x1.trans xx))
    clear rA rB rC rD x1 xx
    go_wp2_with fail
    generalize (w1.alloc (.cells #[.pointer pa, .pointer pb] 48)).alloc (.cells #[.pointer pc, .pointer pd] 48) = W1 at *
    refine (C0.out _).mono ?_
    rintro e w2 ⟨rfl, rfl⟩
    go_wp2_with fail
    go_ret2
    exact ⟨rfl, X1.out⟩
  · have C1 := Lib.hid (two_no s1 t1 s2 t2 hg)
    clear hg h
    go_enter Try.func18, Try.ntmps18
    go_wp2_with fail
    generalize (w.alloc (.cells #[.string s1, .string t1] 28)).alloc (.cells #[.string s2, .string t2] 28) = W at *
    refine (C1.out _).mono ?_
    rintro e w1 ⟨pa, pb, pc, pd, rfl, x1⟩
    obtain ⟨xx, d0, d1, d2, d3⟩ := boxes4 w1 (.pointer pa) (.pointer pb) (.pointer pc) (.pointer pd) 48
    have X1 := Lib.hid (X2.out.trans (x1.trans xx))
    clear x1 xx
    go_wp2_with fail
    go_ret2
    exact ⟨rfl, X1.out⟩

set_option maxHeartbeats 3200000 in
set_option maxRecDepth 100000 in
theorem cjAsked_calls (s1 t1 s2 t2 : ByteArray) (m : Int) (w : World) :
    Calls Try.prog 32 #[.agg #[.string s1, .string t1], .agg #[.string s2, .string t2], .int .i64 m] w fun e w' => ∃ b, e = .returned (.bool b) ∧ Hid (b = true ↔ (Good s1 t1 ∧ Good s2 t2) ∧ 0 ≤ m ∧ m ≤ 4) ∧ Ext w w' := by
  obtain ⟨X2, c0, c1, c2, c3⟩ := boxes4 w (.string s1) (.string t1) (.string s2) (.string t2) 28
  have X2 := Lib.hid X2
  by_cases h1 : Good s1 t1
  · have C1 : Hid (∀ W, Calls Try.prog 45 #[.agg #[.string s1, .string t1]] W fun e w' => e = .returned (.bool true) ∧ Ext W w') := by
      obtain ⟨A, B, rfl, rfl, a1, a2⟩ := h1
      exact fun W => prGood_yes A B a1 a2 W
    by_cases h2 : Good s2 t2
    · have C2 : Hid (∀ W, Calls Try.prog 45 #[.agg #[.string s2, .string t2]] W fun e w' => e = .returned (.bool true) ∧ Ext W w') := by
        obtain ⟨A, B, rfl, rfl, a1, a2⟩ := h2
        exact fun W => prGood_yes A B a1 a2 W
      have C3 := Lib.hid (fun W => l1In_calls m 0 4 W)
      have FI : Hid (decide (0 ≤ m ∧ m ≤ 4) = true ↔ (Good s1 t1 ∧ Good s2 t2) ∧ 0 ≤ m ∧ m ≤ 4) := ⟨fun h => ⟨⟨h1, h2⟩, of_decide_eq_true h⟩, fun h => decide_eq_true h.2⟩
      clear h1 h2
      go_enter Try.func32, Try.ntmps32
      go_wp2_with fail
      generalize (w.alloc (.cells #[.string s1, .string t1] 28)).alloc (.cells #[.string s2, .string t2] 28) = W at *
      refine (C1.out _).mono ?_
      rintro e w1 ⟨rfl, x1⟩
      have c2 := x1.cell c2
      have c3 := x1.cell c3
      have X1 := Lib.hid (X2.out.trans x1)
      clear x1 c0 c1
      go_wp2_with fail
      refine (C2.out _).mono ?_
      rintro e w2 ⟨rfl, x2⟩
      have X3 := Lib.hid (X1.out.trans x2)
      clear x2 c2 c3
      go_wp2_with fail
      refine (C3.out _).mono ?_
      rintro e w3 ⟨rfl, rfl⟩
      generalize decide (0 ≤ m ∧ m ≤ 4) = b at *
      go_wp2_with fail
      go_ret
      exact ⟨_, rfl, FI.out, X3.out⟩
    · have C2 := Lib.hid (fun W => prGood_no s2 t2 h2 W)
      have FI : Hid (false = true ↔ (Good s1 t1 ∧ Good s2 t2) ∧ 0 ≤ m ∧ m ≤ 4) := ⟨(fun h => by cases h), fun h => absurd h.1.2 h2⟩
      clear h1 h2
      go_enter Try.func32, Try.ntmps32
      go_wp2_with fail
      generalize (w.alloc (.cells #[.string s1, .string t1] 28)).alloc (.cells #[.string s2, .string t2] 28) = W at *
      refine (C1.out _).mono ?_
      rintro e w1 ⟨rfl, x1⟩
      have c2 := x1.cell c2
      have c3 := x1.cell c3
      have X1 := Lib.hid (X2.out.trans x1)
      clear x1 c0 c1
      go_wp2_with fail
      refine (C2.out _).mono ?_
      rintro e w2 ⟨rfl, x2⟩
      have X3 := Lib.hid (X1.out.trans x2)
      clear x2 c2 c3
      go_wp2_with fail
      go_ret
      exact ⟨_, rfl, FI.out, X3.out⟩
  · have C1 := Lib.hid (fun W => prGood_no s1 t1 h1 W)
    have FI : Hid (false = true ↔ (Good s1 t1 ∧ Good s2 t2) ∧ 0 ≤ m ∧ m ≤ 4) := ⟨(fun h => by cases h), fun h => absurd h.1.1 h1⟩
    clear h1
    go_enter Try.func32, Try.ntmps32
    go_wp2_with fail
    generalize (w.alloc (.cells #[.string s1, .string t1] 28)).alloc (.cells #[.string s2, .string t2] 28) = W at *
    refine (C1.out _).mono ?_
    rintro e w1 ⟨rfl, x1⟩
    have X1 := Lib.hid (X2.out.trans x1)
    clear x1 c0 c1
    go_wp2_with fail
    go_ret
    exact ⟨_, rfl, FI.out, X1.out⟩
end Go.Proofs.Ytfjhecilkeikiaa.N
