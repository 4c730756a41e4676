import Derived.Test.YtpmmajfdcicjiaaGreatG1RFnHalvesAndShifts
import Derived.Test.YtpmmajfdcicjiaaGreatG2RFnHalvesAndShifts
import Derived.Test.YtpmmajfdcicjiaaGreatProg
import Derived.Test.YtpmmajfdcicjiaaGreatG5RFnHalvesAndShifts
import Derived.Test.YtpmmajfdcicjiaaGreatG3RFnHalvesAndShifts
import Derived.Test.YtpmmajfdcicjiaaGreatG4RFnHalvesAndShifts
import Derived.Test.YtpmmajfdcicjiaaGreatG12RFnHalvesAndShifts
import Derived.Test.YtpmmajfdcicjiaaGreatG7RFnHalvesAndShifts
import Derived.Test.YtpmmajfdcicjiaaGreatG16RFnHalvesAndShifts
import Derived.Test.YtpmmajfdcicjiaaGreatG9RFnHalvesAndShifts
import Derived.Test.YtpmmajfdcicjiaaGreatG21RFnHalvesAndShifts
import Derived.Test.YtpmmajfdcicjiaaGreatG17RFnHalvesAndShifts
import Derived.Test.YtpmmajfdcicjiaaGreatG20RFnHalvesAndShifts
import Derived.Deep.LoopGhost
import Derived.Deep.RegionHeld3
import Derived.Deep.QuietTactic
import Derived.StillTailTactics
import Derived.Test.YtpmmajfdcicjiaaGreatG10RFnHalvesAndShifts
import Derived.BigQuiet
import Derived.Deep.OwnRows
import Derived.KernelRfl
/- Letters of words, and their pairs. -/
namespace Go.Proofs.YtpmmajfdcicjiaaGreat.N
open Go.RowKit
set_option linter.unusedVariables false
set_option linter.unusedSimpArgs false

/-- The pair of a letter. -/
def letP (n : Int) : Tr × Tr := if n < 0 then ((gen (n.natAbs - 1)).2, (gen (n.natAbs - 1)).1) else gen (n.natAbs - 1)
theorem letP_carets {n : Int} (hn : n ≠ 0) : (letP n).1.carets = n.natAbs + 1 ∧ (letP n).2.carets = n.natAbs + 1 := by
  have h := gen_carets (n.natAbs - 1)
  unfold letP
  split
  · simp only; omega
  · omega
def TwoL (xs : List Int) : Prop := ∀ x ∈ xs, x ≠ 0 ∧ -2 ≤ x ∧ x ≤ 2
instance (xs : List Int) : Decidable (TwoL xs) := by unfold TwoL; infer_instance
/-- All letters between bounds. -/
def LetL (m : Int) (xs : List Int) : Prop := ∀ x ∈ xs, x ≠ 0 ∧ -m - 1 ≤ x ∧ x ≤ m + 1
instance (m : Int) (xs : List Int) : Decidable (LetL m xs) := by unfold LetL; infer_instance
theorem LetL_two (xs : List Int) : LetL 1 xs ↔ TwoL xs := forall_congr' fun x => forall_congr' fun _ => by omega

section
attribute [local go_sem] max2_i max_two_
theorem size_calls (n : Int) (hn : -1000000 ≤ n ∧ n ≤ 1000000) (w : World) :
    Calls Tryz.prog 115 #[.int .i64 n] w fun e w' => e = .returned (.int .i64 (n.natAbs : Nat)) ∧ w = w' := by
  by_cases h : n < -n
  · go_enter Tryz.func115, Tryz.ntmps115
    go_wp2_with fail
    go_ret
    exact ⟨ret_int (by omega), rfl⟩
  · go_enter Tryz.func115, Tryz.ntmps115
    go_wp2_with fail
    go_ret
    exact ⟨ret_int (by omega), rfl⟩
end

set_option maxHeartbeats 3200000 in
set_option maxRecDepth 100000 in
theorem letter_calls (n : Int) (hn : n ≠ 0 ∧ -900 ≤ n ∧ n ≤ 900) (w : World) :
    Calls Tryz.prog 84 #[.int .i64 n] w (GivesP w (letP n).1 (letP n).2) := by
  have X0 := Lib.hid ((Ext.refl w).alloc (.cells #[.pointer none, .pointer none] 67))
  have t0 := Two.new w (.pointer none) (.pointer none) 67 rfl
  have C1 := Lib.hid (fun W => size_calls n (by omega) W)
  have C2 := Lib.hid (fun W => generator_calls (n.natAbs - 1) (by omega) W)
  have C3 := Lib.hid (fun pa pb W => inverse_calls pa pb W)
  have W1 : Hid ((n.natAbs : Int) - 1 = ((n.natAbs - 1 : Nat) : Int)) := by show _ = _; omega
  have b0 : (0 : Int) ≤ n.natAbs ∧ (n.natAbs : Int) ≤ 900 := by omega
  unfold letP
  generalize n.natAbs - 1 = k at *
  obtain ⟨a, ha⟩ : ∃ a : Int, a = (n.natAbs : Int) := ⟨_, rfl⟩
  rw [← ha] at C1 W1 b0
  clear ha
  by_cases hneg : n < 0
  · rw [if_pos hneg]
    clear hn
    go_enter Tryz.func84, Tryz.ntmps84
    go_wp2_with fail
    generalize w.alloc (.cells #[.pointer none, .pointer none] 67) = W at *
    refine (C1.out _).mono ?_
    rintro e w1 ⟨rfl, rfl⟩
    go_wp2_with fail
    rw [W1.out]
    refine (C2.out _).mono ?_
    rintro e w2 ⟨pa, pb, rfl, r1, r2, x2⟩
    have xa := x2.alloc (.cells #[.pointer pa, .pointer pb] 67)
    have R := Lib.hid (And.intro (r1.ext ((Ext.refl w2).alloc (.cells #[.pointer pa, .pointer pb] 67))) (r2.ext ((Ext.refl w2).alloc (.cells #[.pointer pa, .pointer pb] 67))))
    have X2 := Lib.hid (X0.out.trans xa)
    have T2 := Lib.hid (t0.ext xa)
    obtain ⟨c0, c1⟩ := cells_of (heap_alloc_new w2 (.cells #[.pointer pa, .pointer pb] 67))
    clear r1 r2 x2 xa t0
    go_wp2_with fail
    generalize w2.alloc (.cells #[.pointer pa, .pointer pb] 67) = W2 at *
    refine (C3.out _ _ _).mono ?_
    rintro e w3 ⟨rfl, x3⟩
    have T3 := T2.out.ext x3
    obtain ⟨u, v, k0, k1, f0, f1⟩ := T3.facts
    have T3 := Lib.hid T3
    have X3 := Lib.hid (X2.out.trans x3)
    have R3 := Lib.hid (And.intro (R.out.1.ext x3) (R.out.2.ext x3))
    clear x3
    go_wp2_with fail
    have HH := set2_heap T3.out (.pointer pb) (.pointer pa)
    have Q1 := Rep.set2 T3.out (by decide) (.pointer pb) (.pointer pa) R3.out.1
    have Q2 := Rep.set2 T3.out (by decide) (.pointer pb) (.pointer pa) R3.out.2
    have XX := X3.out.set2 (g := w.heap.size) (Nat.le_refl _) (.pointer pb) (.pointer pa)
    change bodyPost _ _ _ _ _ (N.set2 _ w.heap.size (.pointer pb) (.pointer pa))
    obtain ⟨hc0, hc1⟩ := cells_of HH
    generalize N.set2 _ w.heap.size (.pointer pb) (.pointer pa) = W3 at *
    exact bodyPost_ret (v := .agg #[.pointer pb, .pointer pa]) (by simp [results, Tryz.results84, go_sem, hc0, hc1]) rfl ⟨pb, pa, rfl, Q2, Q1, XX⟩
  · rw [if_neg hneg]
    have hneg' : ¬ n < 0 := hneg
    clear hn
    go_enter Tryz.func84, Tryz.ntmps84
    go_wp2_with fail
    generalize w.alloc (.cells #[.pointer none, .pointer none] 67) = W at *
    refine (C1.out _).mono ?_
    rintro e w1 ⟨rfl, rfl⟩
    go_wp2_with fail
    rw [W1.out]
    refine (C2.out _).mono ?_
    rintro e w2 ⟨pa, pb, rfl, r1, r2, x2⟩
    have xa := x2.alloc (.cells #[.pointer pa, .pointer pb] 67)
    have R := Lib.hid (And.intro (r1.ext ((Ext.refl w2).alloc (.cells #[.pointer pa, .pointer pb] 67))) (r2.ext ((Ext.refl w2).alloc (.cells #[.pointer pa, .pointer pb] 67))))
    have X2 := Lib.hid (X0.out.trans xa)
    have T3 := t0.ext xa
    obtain ⟨u, v, k0, k1, f0, f1⟩ := T3.facts
    have T3 := Lib.hid T3
    obtain ⟨c0, c1⟩ := cells_of (heap_alloc_new w2 (.cells #[.pointer pa, .pointer pb] 67))
    clear r1 r2 x2 xa t0
    go_wp2_with fail
    have HH := set2_heap T3.out (.pointer pa) (.pointer pb)
    have Q1 := Rep.set2 T3.out (by decide) (.pointer pa) (.pointer pb) R.out.1
    have Q2 := Rep.set2 T3.out (by decide) (.pointer pa) (.pointer pb) R.out.2
    have XX := X2.out.set2 (g := w.heap.size) (Nat.le_refl _) (.pointer pa) (.pointer pb)
    change bodyPost _ _ _ _ _ (N.set2 (w2.alloc (.cells #[.pointer pa, .pointer pb] 67)) w.heap.size (.pointer pa) (.pointer pb))
    obtain ⟨hc0, hc1⟩ := cells_of HH
    generalize N.set2 (w2.alloc (.cells #[.pointer pa, .pointer pb] 67)) w.heap.size (.pointer pa) (.pointer pb) = W3 at *
    exact bodyPost_ret (v := .agg #[.pointer pa, .pointer pb]) (by simp [results, Tryz.results84, go_sem, hc0, hc1]) rfl ⟨pa, pb, rfl, Q1, Q2, XX⟩

set_option maxHeartbeats 1600000 in
theorem areTwo_calls (xs : List Int) (hl : xs.length < 1000000000) (v : Value) (w : World) (hv : Reads w v (ints xs)) :
    Calls Tryz.prog 83 #[v] w fun e w' => e = .returned (.bool (decide (TwoL xs))) ∧ w = w' := by
  obtain ⟨A, c, rfl, _, rd⟩ := hv
  rw [ints_length] at *
  have RD := Lib.hid rd
  clear rd
  go_enter Tryz.func83, Tryz.ntmps83
  go_wp2_with fail
  go_loop [7] (fun i => ∃ k : Nat, k ≤ xs.length ∧ i = .int .i64 k ∧ Hid (TwoL xs ↔ TwoL (xs.drop k))) (fun i => xs.length - (intOf i).toNat)
  case atStart => exact ⟨0, Nat.zero_le _, rfl, Iff.rfl⟩
  case round =>
    obtain ⟨k, hk, rfl, HI⟩ := hrel
    by_cases hlt : k < xs.length
    · obtain ⟨ad, rfl, ca⟩ := RD.out (by omega)
      have hx : xs[k]? = some xs[k] := List.getElem?_eq_getElem hlt
      have c1 := ca k _ (ints_get xs k hlt)
      have h0 : (0 : Int) ≤ k := by omega
      have h1 : (k : Int) < xs.length := by omega
      clear ca
      generalize xs[k] = x at *
      by_cases g0 : x = 0
      · have HE : Hid (decide (TwoL xs) = false) := decide_eq_false (all_not hx (by omega))
        have t0 : (x == 0) = true := by rw [g0]; rfl
        clear g0 hx
        go_wp2_with fail
        go_ret
        exact ⟨by rw [HE.out]; rfl, rfl⟩
      have t0 : (x == 0) = false := by rw [beq_eq_false_iff_ne]; exact g0
      by_cases g1 : x < -2
      · have HE : Hid (decide (TwoL xs) = false) := decide_eq_false (all_not hx (by omega))
        clear hx
        go_wp2_with fail
        go_ret
        exact ⟨by rw [HE.out]; rfl, rfl⟩
      · by_cases g2 : (2 : Int) < x
        · have HE : Hid (decide (TwoL xs) = false) := decide_eq_false (all_not hx (by omega))
          clear hx
          go_wp2_with fail
          go_ret
          exact ⟨by rw [HE.out]; rfl, rfl⟩
        · have HE : Hid (TwoL xs ↔ TwoL (xs.drop (k + 1))) := all_step hx (by omega) HI.out
          clear hx
          go_wp2_with fail
          exact ⟨⟨k + 1, by omega, by go_num, HE.out⟩, by simp [intOf]; omega⟩
    · have h1 : (xs.length : Int) ≤ k := by omega
      have HE : Hid (decide (TwoL xs) = true) := decide_eq_true (all_end (by omega) HI.out)
      go_wp2_with fail
      go_ret
      exact ⟨by rw [HE.out]; rfl, rfl⟩

set_option maxHeartbeats 1600000 in
theorem wdIs_calls (xs : List Int) (m : Int) (hm : 0 ≤ m ∧ m ≤ 1000) (hl : xs.length < 1000000000) (v : Value) (w : World) (hv : Reads w v (ints xs)) :
    Calls Tryz.prog 85 #[v, .int .i64 m] w fun e w' => e = .returned (.bool (decide (LetL m xs))) ∧ w = w' := by
  obtain ⟨A, c, rfl, _, rd⟩ := hv
  rw [ints_length] at *
  have RD := Lib.hid rd
  clear rd
  go_enter Tryz.func85, Tryz.ntmps85
  go_wp2_with fail
  go_loop [9] (fun i => ∃ k : Nat, k ≤ xs.length ∧ i = .int .i64 k ∧ Hid (LetL m xs ↔ LetL m (xs.drop k))) (fun i => xs.length - (intOf i).toNat)
  case atStart => exact ⟨0, Nat.zero_le _, rfl, Iff.rfl⟩
  case round =>
    obtain ⟨k, hk, rfl, HI⟩ := hrel
    by_cases hlt : k < xs.length
    · obtain ⟨ad, rfl, ca⟩ := RD.out (by omega)
      have hx : xs[k]? = some xs[k] := List.getElem?_eq_getElem hlt
      have c1 := ca k _ (ints_get xs k hlt)
      have h0 : (0 : Int) ≤ k := by omega
      have h1 : (k : Int) < xs.length := by omega
      clear ca
      generalize xs[k] = x at *
      by_cases g0 : x = 0
      · have HE : Hid (decide (LetL m xs) = false) := decide_eq_false (all_not hx (by omega))
        have t0 : (x == 0) = true := by rw [g0]; rfl
        clear g0 hx
        go_wp2_with fail
        go_ret
        exact ⟨by rw [HE.out]; rfl, rfl⟩
      have t0 : (x == 0) = false := by rw [beq_eq_false_iff_ne]; exact g0
      have CC := Lib.hid (l1In_calls x (-m - 1) (m + 1) w)
      by_cases g1 : -m - 1 ≤ x ∧ x ≤ m + 1
      · have HE : Hid (LetL m xs ↔ LetL m (xs.drop (k + 1))) := all_step hx (by omega) HI.out
        rw [decide_eq_true g1] at CC
        clear hx g1 HI g0
        go_wp2_with fail
        refine CC.out.mono ?_
        rintro e w1 ⟨rfl, rfl⟩
        go_wp2_with fail
        exact ⟨⟨k + 1, by omega, by go_num, HE.out⟩, by simp [intOf]; omega⟩
      · have HE : Hid (decide (LetL m xs) = false) := decide_eq_false (all_not hx (by omega))
        rw [decide_eq_false g1] at CC
        clear hx g1 HI g0
        go_wp2_with fail
        refine CC.out.mono ?_
        rintro e w1 ⟨rfl, rfl⟩
        go_wp2_with fail
        go_ret
        exact ⟨by rw [HE.out]; rfl, rfl⟩
    · have h1 : (xs.length : Int) ≤ k := by omega
      have HE : Hid (decide (LetL m xs) = true) := decide_eq_true (all_end (by omega) HI.out)
      go_wp2_with fail
      go_ret
      exact ⟨by rw [HE.out]; rfl, rfl⟩

set_option maxHeartbeats 3200000 in
set_option maxRecDepth 100000 in
theorem wdLetter_calls (n : Int) (hn : n ≠ 0 ∧ -90 ≤ n ∧ n ≤ 90) (w : World) :
    Calls Tryz.prog 86 #[.int .i64 n] w fun e w' => e = .returned (.agg #[.string (tx (letP n).1), .string (tx (letP n).2)]) ∧ Ext w w' := by
  have X0 := Lib.hid ((Ext.refl w).alloc (.cells #[.string ⟨#[]⟩, .string ⟨#[]⟩] 25))
  have t0 := Two.new w (.string ⟨#[]⟩) (.string ⟨#[]⟩) 25 rfl
  have C2 := Lib.hid (fun W => prGenerator_calls (n.natAbs - 1) (by omega) W)
  have C3 := Lib.hid (fun s t W => prInverse_calls s t W)
  unfold letP
  by_cases hneg : n < 0
  · rw [if_pos hneg]
    have W1 : Hid (-n - 1 = ((n.natAbs - 1 : Nat) : Int)) := by show _ = _; omega
    generalize n.natAbs - 1 = k at *
    generalize tx (gen k).1 = a at *
    generalize tx (gen k).2 = b at *
    go_enter Tryz.func86, Tryz.ntmps86
    go_wp2_with fail
    generalize w.alloc (.cells #[.string ⟨#[]⟩, .string ⟨#[]⟩] 25) = W at *
    rw [W1.out]
    refine (C2.out _).mono ?_
    rintro e w2 ⟨rfl, x2⟩
    have X2 := Lib.hid (X0.out.trans x2)
    have T2 := Lib.hid (t0.ext x2)
    clear x2 t0
    go_wp2_with fail
    refine (C3.out _ _ _).mono ?_
    rintro e w3 ⟨rfl, x3⟩
    have T3 := T2.out.ext x3
    obtain ⟨u, v, k0, k1, f0, f1⟩ := T3.facts
    have T3 := Lib.hid T3
    have X3 := Lib.hid (X2.out.trans x3)
    clear x3
    go_wp2_with fail
    have HH := set2_heap T3.out (.string b) (.string a)
    have XX := X3.out.set2 (g := w.heap.size) (Nat.le_refl _) (.string b) (.string a)
    change bodyPost _ _ _ _ _ (N.set2 _ w.heap.size (.string b) (.string a))
    obtain ⟨hc0, hc1⟩ := cells_of HH
    generalize N.set2 _ w.heap.size (.string b) (.string a) = W3 at *
    exact bodyPost_ret (v := .agg #[.string b, .string a]) (by simp [results, Tryz.results86, go_sem, hc0, hc1]) rfl ⟨rfl, XX⟩
  · rw [if_neg hneg]
    have hneg' : ¬ n < 0 := hneg
    have W1 : Hid (n - 1 = ((n.natAbs - 1 : Nat) : Int)) := by show _ = _; omega
    generalize n.natAbs - 1 = k at *
    generalize tx (gen k).1 = a at *
    generalize tx (gen k).2 = b at *
    go_enter Tryz.func86, Tryz.ntmps86
    go_wp2_with fail
    generalize w.alloc (.cells #[.string ⟨#[]⟩, .string ⟨#[]⟩] 25) = W at *
    rw [W1.out]
    refine (C2.out _).mono ?_
    rintro e w2 ⟨rfl, x2⟩
    have X3 := Lib.hid (X0.out.trans x2)
    have T3 := t0.ext x2
    obtain ⟨u, v, k0, k1, f0, f1⟩ := T3.facts
    have T3 := Lib.hid T3
    clear x2 t0
    go_wp2_with fail
    have HH := set2_heap T3.out (.string a) (.string b)
    have XX := X3.out.set2 (g := w.heap.size) (Nat.le_refl _) (.string a) (.string b)
    change bodyPost _ _ _ _ _ (N.set2 _ w.heap.size (.string a) (.string b))
    obtain ⟨hc0, hc1⟩ := cells_of HH
    generalize N.set2 _ w.heap.size (.string a) (.string b) = W3 at *
    exact bodyPost_ret (v := .agg #[.string a, .string b]) (by simp [results, Tryz.results86, go_sem, hc0, hc1]) rfl ⟨rfl, XX⟩
end Go.Proofs.YtpmmajfdcicjiaaGreat.N
/- Tables of numbers: the laws' own helpers over them: copies, likeness, marks. -/
namespace Go.Proofs.YtpmmajfdcicjiaaGreat.N
open Go.RowKit
set_option linter.unusedVariables false
set_option linter.unusedSimpArgs false

theorem Own.made (w : World) (n : Nat) (z : Value) (e : TypeId) (base : Nat) (hb : base ≤ w.heap.size) (hm : n ≤ maxLen) : Own (w.alloc (.cells (madeCells #[z] n) e)) base e (.slice (some ⟨w.heap.size, 0, none⟩) n n) (List.replicate n z) := by
  refine ⟨by simp, .inr ⟨w.heap.size, n, madeCells #[z] n, by simp, hb, heap_alloc_new w _, by simp, hm, by rw [size_madeCells]; simp, ?_⟩⟩
  simp only [List.length_replicate, Nat.mul_one]
  rw [List.take_of_length_le (by rw [Array.length_toList, size_madeCells]; exact Nat.le_refl _)]
  apply List.ext_getElem
  · simp [madeCells]
  · intro i h1 h2; simp [madeCells, Nat.mod_one]
theorem copy_step (bs zs : List Value) (k : Nat) (u : Value) (ha : bs.length = k) (hk : k < zs.length) : (bs ++ zs.drop k).set k u = (bs ++ [u]) ++ zs.drop (k + 1) := by
  rw [List.set_append_right _ _ (by omega), ha, Nat.sub_self, List.drop_eq_getElem_cons hk, List.set_cons_zero]
  simp
end Go.Proofs.YtpmmajfdcicjiaaGreat.N
