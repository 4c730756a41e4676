import Derived.Test.YtfjhecilkeikiaaBa
import Derived.Test.YtfjhecilkeikiaaPu
import Derived.Test.YtfjhecilkeikiaaSl
import Derived.Test.YtfjhecilkeikiaaProg
import Derived.Test.YtfjhecilkeikiaaTn
import Derived.Test.YtfjhecilkeikiaaTs
import Derived.Test.YtfjhecilkeikiaaPp
import Derived.Test.YtfjhecilkeikiaaPg
import Derived.Test.YtfjhecilkeikiaaPh
import Derived.Test.YtfjhecilkeikiaaWl
import Derived.Test.YtfjhecilkeikiaaTp
import Derived.Test.YtfjhecilkeikiaaTr
import Derived.Test.YtfjhecilkeikiaaTu
import Derived.Test.YtfjhecilkeikiaaTg
import Derived.Test.YtfjhecilkeikiaaSg
import Derived.Test.YtfjhecilkeikiaaVt
import Derived.Test.YtfjhecilkeikiaaTk
import Derived.Test.YtfjhecilkeikiaaSj
import Derived.Deep.LoopGhost
import Derived.Deep.RegionHeld3
import Derived.Deep.QuietTactic
import Derived.StillTailTactics
/- Letters of words, and their pairs. -/
namespace Go.Proofs.Ytfjhecilkeikiaa.N
open Go.RowKit
set_option linter.unusedVariables false
set_option linter.unusedSimpArgs false

/-- The pair of a letter. -/
def letP (n : Int) : Tr × Tr := if n < 0 then ((gen (n.natAbs - 1)).2, (gen (n.natAbs - 1)).1) else gen (n.natAbs - 1)
theorem letP_carets {n : Int} (hn : n ≠ 0) : (letP n).1.carets = n.natAbs + 1 ∧ (letP n).2.carets = n.natAbs + 1 := by
  have h := gen_carets (n.natAbs - 1)
  unfold letP
  split
  · simp only; omega
  · omega
def TwoL (xs : List Int) : Prop := ∀ x ∈ xs, x ≠ 0 ∧ -2 ≤ x ∧ x ≤ 2
instance (xs : List Int) : Decidable (TwoL xs) := by unfold TwoL; infer_instance
/-- All letters between bounds. -/
def LetL (m : Int) (xs : List Int) : Prop := ∀ x ∈ xs, x ≠ 0 ∧ -m - 1 ≤ x ∧ x ≤ m + 1
instance (m : Int) (xs : List Int) : Decidable (LetL m xs) := by unfold LetL; infer_instance
theorem LetL_two (xs : List Int) : LetL 1 xs ↔ TwoL xs := forall_congr' fun x => forall_congr' fun _ => by omega

section
attribute [local go_sem] max2_i max_two_
theorem size_calls (n : Int) (hn : -1000000 ≤ n ∧ n ≤ 1000000) (w : World) :
    Calls Try.prog 115 #[.int .i64 n] w fun e w' => e = .returned (.int .i64 (n.natAbs : Nat)) ∧ w = w' := by
  by_cases h : n < -n
  · go_enter Try.func115, Try.ntmps115
    go_wp2_with fail
    go_ret
    exact ⟨ret_int (by omega), rfl⟩
  · go_enter Try.func115, Try.ntmps115
    go_wp2_with fail
    go_ret
    exact ⟨ret_int (by omega), rfl⟩
end

set_option maxHeartbeats 3200000 in
set_option maxRecDepth 100000 in
theorem letter_calls (n : Int) (hn : n ≠ 0 ∧ -900 ≤ n ∧ n ≤ 900) (w : World) :
    Calls Try.prog 93 #[.int .i64 n] w (GivesP w (letP n).1 (letP n).2) := by
  have X0 := Lib.hid ((Ext.refl w).alloc (.cells #[.pointer none, .pointer none] 48))
  have t0 := Two.new w (.pointer none) (.pointer none) 48 rfl
  have C1 := Lib.hid (fun W => size_calls n (by omega) W)
  have C2 := Lib.hid (fun W => generator_calls (n.natAbs - 1) (by omega) W)
  have C3 := Lib.hid (fun pa pb W => inverse_calls pa pb W)
  have W1 : Hid ((n.natAbs : Int) - 1 = ((n.natAbs - 1 : Nat) : Int)) := by show _ = _; omega
  have b0 : (0 : Int) ≤ n.natAbs ∧ (n.natAbs : Int) ≤ 900 := by omega
  unfold letP
  generalize n.natAbs - 1 = k at *
  obtain ⟨a, ha⟩ : ∃ a : Int, a = (n.natAbs : Int) := ⟨_, rfl⟩
  rw [← ha] at C1 W1 b0
  clear ha
  by_cases hneg : n < 0
  · rw [if_pos hneg]
    clear hn
    go_enter Try.func93, Try.ntmps93
    go_wp2_with fail
    generalize w.alloc (.cells #[.pointer none, .pointer none] 48) = W at *
    refine (C1.out _).mono ?_
    rintro e w1 ⟨rfl, rfl⟩
    go_wp2_with fail
    rw [W1.out]
    refine (C2.out _).mono ?_
    rintro e w2 ⟨pa, pb, rfl, r1, r2, x2⟩
    have xa := x2.alloc (.cells #[.pointer pa, .pointer pb] 48)
    have R := Lib.hid (And.intro (r1.ext ((Ext.refl w2).alloc (.cells #[.pointer pa, .pointer pb] 48))) (r2.ext ((Ext.refl w2).alloc (.cells #[.pointer pa, .pointer pb] 48))))
    have X2 := Lib.hid (X0.out.trans xa)
    have T2 := Lib.hid (t0.ext xa)
    obtain ⟨c0, c1⟩ := cells_of (heap_alloc_new w2 (.cells #[.pointer pa, .pointer pb] 48))
    clear r1 r2 x2 xa t0
    go_wp2_with fail
    generalize w2.alloc (.cells #[.pointer pa, .pointer pb] 48) = W2 at *
    refine (C3.out _ _ _).mono ?_
    rintro e w3 ⟨rfl, x3⟩
    have T3 := T2.out.ext x3
    obtain ⟨u, v, k0, k1, f0, f1⟩ := T3.facts
    have T3 := Lib.hid T3
    have X3 := Lib.hid (X2.out.trans x3)
    have R3 := Lib.hid (And.intro (R.out.1.ext x3) (R.out.2.ext x3))
    clear x3
    go_wp2_with fail
    have HH := set2_heap T3.out (.pointer pb) (.pointer pa)
    have Q1 := Rep.set2 T3.out (by decide) (.pointer pb) (.pointer pa) R3.out.1
    have Q2 := Rep.set2 T3.out (by decide) (.pointer pb) (.pointer pa) R3.out.2
    have XX := X3.out.set2 (g := w.heap.size) (Nat.le_refl _) (.pointer pb) (.pointer pa)
    change bodyPost _ _ _ _ _ (N.set2 _ w.heap.size (.pointer pb) (.pointer pa))
    obtain ⟨hc0, hc1⟩ := cells_of HH
    generalize N.set2 _ w.heap.size (.pointer pb) (.pointer pa) = W3 at *
    exact bodyPost_ret (v := .agg #[.pointer pb, .pointer pa]) (by simp [results, Try.results93, go_sem, hc0, hc1]) rfl ⟨pb, pa, rfl, Q2, Q1, XX⟩
  · rw [if_neg hneg]
    have hneg' : ¬ n < 0 := hneg
    clear hn
    go_enter Try.func93, Try.ntmps93
    go_wp2_with fail
    generalize w.alloc (.cells #[.pointer none, .pointer none] 48) = W at *
    refine (C1.out _).mono ?_
    rintro e w1 ⟨rfl, rfl⟩
    go_wp2_with fail
    rw [W1.out]
    refine (C2.out _).mono ?_
    rintro e w2 ⟨pa, pb, rfl, r1, r2, x2⟩
    have xa := x2.alloc (.cells #[.pointer pa, .pointer pb] 48)
    have R := Lib.hid (And.intro (r1.ext ((Ext.refl w2).alloc (.cells #[.pointer pa, .pointer pb] 48))) (r2.ext ((Ext.refl w2).alloc (.cells #[.pointer pa, .pointer pb] 48))))
    have X2 := Lib.hid (X0.out.trans xa)
    have T3 := t0.ext xa
    obtain ⟨u, v, k0, k1, f0, f1⟩ := T3.facts
    have T3 := Lib.hid T3
    obtain ⟨c0, c1⟩ := cells_of (heap_alloc_new w2 (.cells #[.pointer pa, .pointer pb] 48))
    clear r1 r2 x2 xa t0
    go_wp2_with fail
    have HH := set2_heap T3.out (.pointer pa) (.pointer pb)
    have Q1 := Rep.set2 T3.out (by decide) (.pointer pa) (.pointer pb) R.out.1
    have Q2 := Rep.set2 T3.out (by decide) (.pointer pa) (.pointer pb) R.out.2
    have XX := X2.out.set2 (g := w.heap.size) (Nat.le_refl _) (.pointer pa) (.pointer pb)
    change bodyPost _ _ _ _ _ (N.set2 (w2.alloc (.cells #[.pointer pa, .pointer pb] 48)) w.heap.size (.pointer pa) (.pointer pb))
    obtain ⟨hc0, hc1⟩ := cells_of HH
    generalize N.set2 (w2.alloc (.cells #[.pointer pa, .pointer pb] 48)) w.heap.size (.pointer pa) (.pointer pb) = W3 at *
    exact bodyPost_ret (v := .agg #[.pointer pa, .pointer pb]) (by simp [results, Try.results93, go_sem, hc0, hc1]) rfl ⟨pa, pb, rfl, Q1, Q2, XX⟩

set_option maxHeartbeats 3200000 in
set_option maxRecDepth 100000 in
theorem wdLetter_calls (n : Int) (hn : n ≠ 0 ∧ -90 ≤ n ∧ n ≤ 90) (w : World) :
    Calls Try.prog 88 #[.int .i64 n] w fun e w' => e = .returned (.agg #[.string (tx (letP n).1), .string (tx (letP n).2)]) ∧ Ext w w' := by
  have X0 := Lib.hid ((Ext.refl w).alloc (.cells #[.string ⟨#[]⟩, .string ⟨#[]⟩] 28))
  have t0 := Two.new w (.string ⟨#[]⟩) (.string ⟨#[]⟩) 28 rfl
  have C2 := Lib.hid (fun W => prGenerator_calls (n.natAbs - 1) (by omega) W)
  have C3 := Lib.hid (fun s t W => prInverse_calls s t W)
  unfold letP
  by_cases hneg : n < 0
  · rw [if_pos hneg]
    have W1 : Hid (-n - 1 = ((n.natAbs - 1 : Nat) : Int)) := by show _ = _; omega
    generalize n.natAbs - 1 = k at *
    generalize tx (gen k).1 = a at *
    generalize tx (gen k).2 = b at *
    go_enter Try.func88, Try.ntmps88
    go_wp2_with fail
    generalize w.alloc (.cells #[.string ⟨#[]⟩, .string ⟨#[]⟩] 28) = W at *
    rw [W1.out]
    refine (C2.out _).mono ?_
    rintro e w2 ⟨rfl, x2⟩
    have X2 := Lib.hid (X0.out.trans x2)
    have T2 := Lib.hid (t0.ext x2)
    clear x2 t0
    go_wp2_with fail
    refine (C3.out _ _ _).mono ?_
    rintro e w3 ⟨rfl, x3⟩
    have T3 := T2.out.ext x3
    obtain ⟨u, v, k0, k1, f0, f1⟩ := T3.facts
    have T3 := Lib.hid T3
    have X3 := Lib.hid (X2.out.trans x3)
    clear x3
    go_wp2_with fail
    have HH := set2_heap T3.out (.string b) (.string a)
    have XX := X3.out.set2 (g := w.heap.size) (Nat.le_refl _) (.string b) (.string a)
    change bodyPost _ _ _ _ _ (N.set2 _ w.heap.size (.string b) (.string a))
    obtain ⟨hc0, hc1⟩ := cells_of HH
    generalize N.set2 _ w.heap.size (.string b) (.string a) = W3 at *
    exact bodyPost_ret (v := .agg #[.string b, .string a]) (by simp [results, Try.results88, go_sem, hc0, hc1]) rfl ⟨rfl, XX⟩
  · rw [if_neg hneg]
    have hneg' : ¬ n < 0 := hneg
    have W1 : Hid (n - 1 = ((n.natAbs - 1 : Nat) : Int)) := by show _ = _; omega
    generalize n.natAbs - 1 = k at *
    generalize tx (gen k).1 = a at *
    generalize tx (gen k).2 = b at *
    go_enter Try.func88, Try.ntmps88
    go_wp2_with fail
    generalize w.alloc (.cells #[.string ⟨#[]⟩, .string ⟨#[]⟩] 28) = W at *
    rw [W1.out]
    refine (C2.out _).mono ?_
    rintro e w2 ⟨rfl, x2⟩
    have X3 := Lib.hid (X0.out.trans x2)
    have T3 := t0.ext x2
    obtain ⟨u, v, k0, k1, f0, f1⟩ := T3.facts
    have T3 := Lib.hid T3
    clear x2 t0
    go_wp2_with fail
    have HH := set2_heap T3.out (.string a) (.string b)
    have XX := X3.out.set2 (g := w.heap.size) (Nat.le_refl _) (.string a) (.string b)
    change bodyPost _ _ _ _ _ (N.set2 _ w.heap.size (.string a) (.string b))
    obtain ⟨hc0, hc1⟩ := cells_of HH
    generalize N.set2 _ w.heap.size (.string a) (.string b) = W3 at *
    exact bodyPost_ret (v := .agg #[.string a, .string b]) (by simp [results, Try.results88, go_sem, hc0, hc1]) rfl ⟨rfl, XX⟩
end Go.Proofs.Ytfjhecilkeikiaa.N
