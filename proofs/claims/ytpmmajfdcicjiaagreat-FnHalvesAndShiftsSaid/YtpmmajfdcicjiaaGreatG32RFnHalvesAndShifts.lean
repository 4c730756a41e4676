import Derived.Test.YtpmmajfdcicjiaaGreatG1RFnHalvesAndShifts
import Derived.Test.YtpmmajfdcicjiaaGreatG2RFnHalvesAndShifts
import Derived.Test.YtpmmajfdcicjiaaGreatProg
import Derived.Test.YtpmmajfdcicjiaaGreatG5RFnHalvesAndShifts
import Derived.Test.YtpmmajfdcicjiaaGreatG3RFnHalvesAndShifts
import Derived.Test.YtpmmajfdcicjiaaGreatG12RFnHalvesAndShifts
import Derived.Test.YtpmmajfdcicjiaaGreatG7RFnHalvesAndShifts
import Derived.Test.YtpmmajfdcicjiaaGreatG14RFnHalvesAndShifts
import Derived.Test.YtpmmajfdcicjiaaGreatG17RFnHalvesAndShifts
import Derived.Deep.LoopGhost
import Derived.Deep.RegionHeld3
import Derived.StillTailTactics
import Derived.Deep.CutRange
import Derived.Deep.QuietTactic
import Derived.BigQuiet
import Derived.Test.YtpmmajfdcicjiaaGreatG4RFnHalvesAndShifts
import Derived.Test.YtpmmajfdcicjiaaGreatG13RFnHalvesAndShifts
import Derived.Test.YtpmmajfdcicjiaaGreatG19RFnHalvesAndShifts
/- Products, inverses, reduced pairs: the program's public functions (printed by mk/en.py). -/
namespace Go.Proofs.YtpmmajfdcicjiaaGreat.N
open Go.RowKit
set_option linter.unusedVariables false
set_option linter.unusedSimpArgs false

set_option maxHeartbeats 3200000 in
set_option maxRecDepth 100000 in
theorem ProductPair_yes (A B C D : Tr) (hc : A.carets = B.carets) (hB : B.carets ≤ 8) (hd : C.carets = D.carets) (hD : D.carets ≤ 8) (w : World) :
    Calls Tryz.prog 12 #[.agg #[.string (tx A), .string (tx B)], .agg #[.string (tx C), .string (tx D)]] w fun e w' => e = .returned (ifP (mul (A, B) (C, D))) ∧ Ext w w' := by
  obtain ⟨X2, t0⟩ := boxSS_facts w (tx A) (tx B) (tx C) (tx D) (.string ⟨#[]⟩) (.string ⟨#[]⟩) 25
  have X2 := Lib.hid X2
  have C1 := Lib.hid (two_yes A B C D hc hB hd hD)
  have C2 := Lib.hid (fun pa pb pc pd W ra rb rc rd => times_calls A B C D hc hd (by omega) (by omega) pa pb pc pd W ra rb rc rd)
  have LE := mul_carets (p := (A, B)) (q := (C, D)) hc hd
  simp only at LE
  have C3 := Lib.hid (fun pa pb W => fits_calls (mul (A, B) (C, D)).1 (mul (A, B) (C, D)).2 (by omega) (by omega) pa pb W)
  obtain ⟨s, t, b, hb⟩ := ifP_two (mul (A, B) (C, D))
  rw [show ((mul (A, B) (C, D)).1, (mul (A, B) (C, D)).2) = mul (A, B) (C, D) from rfl, hb] at C3
  rw [hb]
  clear hc hB hd hD LE hb
  go_enter Tryz.func12, Tryz.ntmps12
  go_wp2_with fail
  generalize ((w.alloc (.cells #[.string (tx A), .string (tx B)] 25)).alloc (.cells #[.string (tx C), .string (tx D)] 25)).alloc (.cells #[.string ⟨#[]⟩, .string ⟨#[]⟩] 25) = W at *
  refine (C1.out _).mono ?_
  rintro e w1 ⟨pa, pb, pc, pd, rfl, rA, rB, rC, rD, x1⟩
  have xx := ((Ext.refl w1).alloc (.cells #[.pointer pa, .pointer pb] 67)).alloc (.cells #[.pointer pc, .pointer pd] 67)
  have X1 := Lib.hid (x1.trans xx)
  have RA := Lib.hid (rA.ext xx)
  have RB := Lib.hid (rB.ext xx)
  have RC := Lib.hid (rC.ext xx)
  have RD := Lib.hid (rD.ext xx)
  have T0 := Lib.hid (t0.ext X1.out)
  clear rA rB rC rD t0 x1 xx
  go_wp2_with fail
  generalize (w1.alloc (.cells #[.pointer pa, .pointer pb] 67)).alloc (.cells #[.pointer pc, .pointer pd] 67) = W1 at *
  refine (C2.out pa pb pc pd _ RA.out RB.out RC.out RD.out).mono ?_
  rintro e w2 ⟨p1, p2, rfl, r1, r2, x2⟩
  have X2' := Lib.hid (X1.out.trans x2)
  have R1 := Lib.hid r1
  have R2 := Lib.hid r2
  clear r1 r2
  have T2 := Lib.hid (T0.out.ext x2)
  clear x2
  go_wp2_with fail
  refine (C3.out p1 p2 _ R1.out R2.out).mono ?_
  rintro e w3 ⟨rfl, x3⟩
  have X3 := Lib.hid (X2'.out.trans x3)
  have T3 := T2.out.ext x3
  obtain ⟨u, v, k0, k1, f0, f1⟩ := T3.facts
  have T3 := Lib.hid T3
  clear x3
  go_wp2_with fail
  have HH := set2_heap T3.out (.string s) (.string t)
  have XX := (X2.out.trans X3.out).set2 (g := w.heap.size + 1 + 1) (by omega) (.string s) (.string t)
  change bodyPost _ _ _ _ _ (N.set2 _ (w.heap.size + 1 + 1) (.string s) (.string t))
  obtain ⟨hc0, hc1⟩ := cells_of HH
  generalize N.set2 _ (w.heap.size + 1 + 1) (.string s) (.string t) = W3 at *
  exact bodyPost_ret (v := .tuple #[.agg #[.string s, .string t], .bool b]) (by simp [results, Tryz.results12, go_sem, hc0, hc1]) rfl ⟨rfl, XX⟩
set_option maxHeartbeats 3200000 in
set_option maxRecDepth 100000 in
theorem ProductPair_no (s1 t1 s2 t2 : ByteArray) (h : ¬ (Good s1 t1 ∧ Good s2 t2)) (w : World) :
    Calls Tryz.prog 12 #[.agg #[.string s1, .string t1], .agg #[.string s2, .string t2]] w fun e w' => e = .returned (.tuple #[emptyP, .bool false]) ∧ Ext w w' := by
  obtain ⟨X2, t0⟩ := boxSS_facts w s1 t1 s2 t2 (.string ⟨#[]⟩) (.string ⟨#[]⟩) 25
  have X2 := Lib.hid X2
  have C1 := Lib.hid (two_no s1 t1 s2 t2 h)
  clear h
  go_enter Tryz.func12, Tryz.ntmps12
  go_wp2_with fail
  generalize ((w.alloc (.cells #[.string s1, .string t1] 25)).alloc (.cells #[.string s2, .string t2] 25)).alloc (.cells #[.string ⟨#[]⟩, .string ⟨#[]⟩] 25) = W at *
  refine (C1.out _).mono ?_
  rintro e w1 ⟨pa, pb, pc, pd, rfl, x1⟩
  have X1 := Lib.hid ((x1.alloc (.cells #[.pointer pa, .pointer pb] 67)).alloc (.cells #[.pointer pc, .pointer pd] 67))
  have T3 := t0.ext X1.out
  obtain ⟨u, v, k0, k1, f0, f1⟩ := T3.facts
  have T3 := Lib.hid T3
  clear t0 x1
  go_wp2_with fail
  have HH := set2_heap T3.out (.string ⟨#[]⟩) (.string ⟨#[]⟩)
  have XX := (X2.out.trans X1.out).set2 (g := w.heap.size + 1 + 1) (by omega) (.string ⟨#[]⟩) (.string ⟨#[]⟩)
  change bodyPost _ _ _ _ _ (N.set2 _ (w.heap.size + 1 + 1) (.string ⟨#[]⟩) (.string ⟨#[]⟩))
  obtain ⟨hc0, hc1⟩ := cells_of HH
  generalize N.set2 _ (w.heap.size + 1 + 1) (.string ⟨#[]⟩) (.string ⟨#[]⟩) = W3 at *
  exact bodyPost_ret (v := .tuple #[emptyP, .bool false]) (by simp [results, Tryz.results12, go_sem, hc0, hc1, emptyP]) rfl ⟨rfl, XX⟩

set_option maxHeartbeats 3200000 in
set_option maxRecDepth 100000 in
theorem ReducePair_yes (A B : Tr) (hc : A.carets = B.carets) (hB : B.carets ≤ 8) (w : World) :
    Calls Tryz.prog 52 #[.agg #[.string (tx A), .string (tx B)]] w fun e w' => e = .returned (.tuple #[.agg #[.string (tx (red (A, B)).1), .string (tx (red (A, B)).2)], .bool true]) ∧ Ext w w' := by
  obtain ⟨X2, t0⟩ := boxS_facts w (tx A) (tx B) (.string ⟨#[]⟩) (.string ⟨#[]⟩) 25
  have X2 := Lib.hid X2
  have C1 := Lib.hid (pairOf_yes A B hc hB)
  have C2 := Lib.hid (fun pa pb W ra rb => reduced_calls A B (by omega) (by omega) pa pb W ra rb)
  have LE : (red (A, B)).1.carets ≤ 8 ∧ (red (A, B)).2.carets ≤ 8 := by have := red_le (A, B); simp only at this; omega
  have C3 := Lib.hid (fun pa pb W (ra : Rep W (red (A, B)).1 pa) (rb : Rep W (red (A, B)).2 pb) => plain_calls (red (A, B)).1 (red (A, B)).2 (by omega) (by omega) pa pb W ra rb)
  generalize tx (red (A, B)).1 = s at *
  generalize tx (red (A, B)).2 = t at *
  clear hc hB LE
  go_enter Tryz.func52, Tryz.ntmps52
  go_wp2_with fail
  generalize (w.alloc (.cells #[.string (tx A), .string (tx B)] 25)).alloc (.cells #[.string ⟨#[]⟩, .string ⟨#[]⟩] 25) = W at *
  refine (C1.out _).mono ?_
  rintro e w1 ⟨pa, pb, rfl, rA, rB, x1⟩
  have X1 := Lib.hid (x1.alloc (.cells #[.pointer pa, .pointer pb] 67))
  have RA := Lib.hid (rA.ext ((Ext.refl w1).alloc (.cells #[.pointer pa, .pointer pb] 67)))
  have RB := Lib.hid (rB.ext ((Ext.refl w1).alloc (.cells #[.pointer pa, .pointer pb] 67)))
  have T0 := Lib.hid (t0.ext X1.out)
  clear rA rB t0 x1
  go_wp2_with fail
  generalize w1.alloc (.cells #[.pointer pa, .pointer pb] 67) = W1 at *
  refine (C2.out pa pb _ RA.out RB.out).mono ?_
  rintro e w2 ⟨p1, p2, rfl, r1, r2, x2⟩
  have X2' := Lib.hid (X1.out.trans x2)
  have R1 := Lib.hid r1
  have R2 := Lib.hid r2
  clear r1 r2
  have T2 := Lib.hid (T0.out.ext x2)
  clear x2
  go_wp2_with fail
  refine (C3.out p1 p2 _ R1.out R2.out).mono ?_
  rintro e w3 ⟨rfl, x3⟩
  have X3 := Lib.hid (X2'.out.trans x3)
  have T3 := T2.out.ext x3
  obtain ⟨u, v, k0, k1, f0, f1⟩ := T3.facts
  have T3 := Lib.hid T3
  clear x3
  go_wp2_with fail
  have HH := set2_heap T3.out (.string s) (.string t)
  have XX := (X2.out.trans X3.out).set2 (g := w.heap.size + 1) (by omega) (.string s) (.string t)
  change bodyPost _ _ _ _ _ (N.set2 _ (w.heap.size + 1) (.string s) (.string t))
  obtain ⟨hc0, hc1⟩ := cells_of HH
  generalize N.set2 _ (w.heap.size + 1) (.string s) (.string t) = W3 at *
  exact bodyPost_ret (v := .tuple #[.agg #[.string s, .string t], .bool true]) (by simp [results, Tryz.results52, go_sem, hc0, hc1]) rfl ⟨rfl, XX⟩

set_option maxHeartbeats 3200000 in
set_option maxRecDepth 100000 in
theorem InversePair_yes (A B : Tr) (hc : A.carets = B.carets) (hB : B.carets ≤ 8) (w : World) :
    Calls Tryz.prog 32 #[.agg #[.string (tx A), .string (tx B)]] w fun e w' => e = .returned (.tuple #[.agg #[.string (tx B), .string (tx A)], .bool true]) ∧ Ext w w' := by
  obtain ⟨X2, t0⟩ := boxS_facts w (tx A) (tx B) (.string ⟨#[]⟩) (.string ⟨#[]⟩) 25
  have X2 := Lib.hid X2
  have C1 := Lib.hid (pairOf_yes A B hc hB)
  have C2 := Lib.hid (fun pa pb W => inverse_calls pa pb W)
  have LE : B.carets ≤ 8 ∧ A.carets ≤ 8 := by omega
  have C3 := Lib.hid (fun pa pb W (ra : Rep W B pa) (rb : Rep W A pb) => plain_calls B A (by omega) (by omega) pa pb W ra rb)
  generalize tx B = s at *
  generalize tx A = t at *
  clear hc hB LE
  go_enter Tryz.func32, Tryz.ntmps32
  go_wp2_with fail
  generalize (w.alloc (.cells #[.string t, .string s] 25)).alloc (.cells #[.string ⟨#[]⟩, .string ⟨#[]⟩] 25) = W at *
  refine (C1.out _).mono ?_
  rintro e w1 ⟨pa, pb, rfl, rA, rB, x1⟩
  have X1 := Lib.hid (x1.alloc (.cells #[.pointer pa, .pointer pb] 67))
  have RA := Lib.hid (rA.ext ((Ext.refl w1).alloc (.cells #[.pointer pa, .pointer pb] 67)))
  have RB := Lib.hid (rB.ext ((Ext.refl w1).alloc (.cells #[.pointer pa, .pointer pb] 67)))
  have T0 := Lib.hid (t0.ext X1.out)
  clear rA rB t0 x1
  go_wp2_with fail
  generalize w1.alloc (.cells #[.pointer pa, .pointer pb] 67) = W1 at *
  refine (C2.out pa pb _).mono ?_
  rintro e w2 ⟨rfl, x2⟩
  have X2' := Lib.hid (X1.out.trans x2)
  obtain ⟨p1, h1⟩ : ∃ p1, p1 = pb := ⟨_, rfl⟩
  obtain ⟨p2, h2⟩ : ∃ p2, p2 = pa := ⟨_, rfl⟩
  have R1 := Lib.hid (RB.out.ext x2)
  have R2 := Lib.hid (RA.out.ext x2)
  rw [← h1] at R1 ⊢
  rw [← h2] at R2 ⊢
  clear h1 h2
  have T2 := Lib.hid (T0.out.ext x2)
  clear x2
  go_wp2_with fail
  refine (C3.out p1 p2 _ R1.out R2.out).mono ?_
  rintro e w3 ⟨rfl, x3⟩
  have X3 := Lib.hid (X2'.out.trans x3)
  have T3 := T2.out.ext x3
  obtain ⟨u, v, k0, k1, f0, f1⟩ := T3.facts
  have T3 := Lib.hid T3
  clear x3
  go_wp2_with fail
  have HH := set2_heap T3.out (.string s) (.string t)
  have XX := (X2.out.trans X3.out).set2 (g := w.heap.size + 1) (by omega) (.string s) (.string t)
  change bodyPost _ _ _ _ _ (N.set2 _ (w.heap.size + 1) (.string s) (.string t))
  obtain ⟨hc0, hc1⟩ := cells_of HH
  generalize N.set2 _ (w.heap.size + 1) (.string s) (.string t) = W3 at *
  exact bodyPost_ret (v := .tuple #[.agg #[.string s, .string t], .bool true]) (by simp [results, Tryz.results32, go_sem, hc0, hc1]) rfl ⟨rfl, XX⟩

theorem nReduced_yes (A B : Tr) (hc : A.carets = B.carets) (hB : B.carets ≤ 8) (w : World) :
    Calls Tryz.prog 11 #[.agg #[.string (tx A), .string (tx B)]] w fun e w' => e = .returned (.agg #[.string (tx (red (A, B)).1), .string (tx (red (A, B)).2)]) ∧ Ext w w' := by
  obtain ⟨X2, t0⟩ := boxS_facts w (tx A) (tx B) (.string ⟨#[]⟩) (.string ⟨#[]⟩) 25
  have X2 := Lib.hid X2
  have C1 := Lib.hid (fun W => ReducePair_yes A B hc hB W)
  generalize tx (red (A, B)).1 = s at *
  generalize tx (red (A, B)).2 = t at *
  generalize tx A = a at *
  generalize tx B = b at *
  clear hc hB
  go_enter Tryz.func11, Tryz.ntmps11
  go_wp2_with fail
  generalize (w.alloc (.cells #[.string a, .string b] 25)).alloc (.cells #[.string ⟨#[]⟩, .string ⟨#[]⟩] 25) = W at *
  refine (C1.out _).mono ?_
  rintro e w1 ⟨rfl, x1⟩
  have xa := (Ext.refl w1).alloc (.cells #[.string s, .string t] 25)
  obtain ⟨b0, b1⟩ := cells_of (heap_alloc_new w1 (.cells #[.string s, .string t] 25))
  have X3 := Lib.hid (X2.out.trans (x1.trans xa))
  have T3 := t0.ext (x1.trans xa)
  obtain ⟨u, v, k0, k1, f0, f1⟩ := T3.facts
  have T3 := Lib.hid T3
  clear x1 xa t0
  go_wp2_with fail
  have HH := set2_heap T3.out (.string s) (.string t)
  have XX := X3.out.set2 (g := w.heap.size + 1) (by omega) (.string s) (.string t)
  generalize hW : w1.alloc (.cells #[.string s, .string t] 25) = W1 at *
  change bodyPost _ _ _ _ _ (N.set2 W1 (w.heap.size + 1) (.string s) (.string t))
  obtain ⟨hc0, hc1⟩ := cells_of HH
  generalize N.set2 W1 (w.heap.size + 1) (.string s) (.string t) = W3 at *
  exact bodyPost_ret (v := .agg #[.string s, .string t]) (by simp [results, Tryz.results11, go_sem, hc0, hc1]) rfl ⟨rfl, XX⟩
end Go.Proofs.YtpmmajfdcicjiaaGreat.N
/- Halves and shifts as maps: plain Lean. -/
namespace Go.Proofs.YtpmmajfdcicjiaaGreat.N
set_option linter.unusedVariables false
set_option linter.unusedSimpArgs false

/-- p on the left half, q on the right one. -/
def hv (p q : Tr × Tr) : Tr × Tr := (.node p.1 q.1, .node p.2 q.2)
theorem Bal.hv {p q : Tr × Tr} (hp : Bal p) (hq : Bal q) : Bal (hv p q) := by unfold Bal at *; simp only [N.hv, Tr.carets]; omega
theorem act_hv_l {p q : Tr × Tr} (hp : Bal p) (s : Str) : act (hv p q) (scons false s) = scons false (act p s) := by
  have h := find_le p.1 s
  unfold Bal at hp
  unfold act
  simp only [hv, find, scons_head, stail_scons, if_true, adr]
  rw [if_pos (by omega)]
  rfl
theorem act_hv_r {p q : Tr × Tr} (hp : Bal p) (s : Str) : act (hv p q) (scons true s) = scons true (act q s) := by
  unfold Bal at hp
  unfold act
  simp only [hv, find, scons_head, stail_scons, Bool.true_eq_false, if_false, adr]
  rw [if_neg (by omega), show (find q.1 s).1 + (p.1.carets + 1) - (p.2.carets + 1) = (find q.1 s).1 from by omega]
  rfl
theorem str_cases {P : Str → Prop} (h0 : ∀ s, P (scons false s)) (h1 : ∀ s, P (scons true s)) (s : Str) : P s := by
  rw [← scons_eta s]
  cases s 0
  · exact h0 _
  · exact h1 _
theorem both_hv {p q : Tr × Tr} (hp : Bal p) (bp : bothT p.1 p.2 = []) (bq : bothT q.1 q.2 = []) (h : ¬ (p = one ∧ q = one)) : bothT (hv p q).1 (hv p q).2 = [] := by
  unfold Bal at hp
  have hn : ¬ ((p.1 = .leaf ∧ q.1 = .leaf) ∧ (p.2 = .leaf ∧ q.2 = .leaf)) := fun ⟨⟨a, b⟩, c, d⟩ => h ⟨Prod.ext a c, Prod.ext b d⟩
  rw [both_nil] at bp bq ⊢
  simp only [hv]
  intro k k1 k2
  by_cases h1 : p.1 = .leaf ∧ q.1 = .leaf
  · rw [h1.1, h1.2] at k1
    have hk : k = 0 := by simpa [expo] using k1
    subst hk
    have c1 : p.2 = .leaf := carets_zero (by rw [h1.1] at hp; simp only [Tr.carets] at hp; omega)
    by_cases h2 : q.2 = .leaf
    · exact hn ⟨h1, c1, h2⟩
    · rw [expo_node (fun e => h2 e.2), c1, expo_shift] at k2
      simp [expo, Tr.carets] at k2
  · rw [expo_node h1, expo_shift] at k1
    by_cases h2 : p.2 = .leaf ∧ q.2 = .leaf
    · rw [h2.1, h2.2] at k2
      have hk : k = 0 := by simpa [expo] using k2
      subst hk
      have c1 : p.1 = .leaf := carets_zero (by rw [h2.1] at hp; simp only [Tr.carets] at hp; omega)
      rw [c1] at k1
      simp [expo, Tr.carets] at k1
    · rw [expo_node h2, expo_shift] at k2
      rcases List.mem_append.1 k1 with k1 | k1 <;> rcases List.mem_append.1 k2 with k2 | k2
      · exact bp k k1 k2
      · have := (expo_range p.1 0 k k1).2.1
        obtain ⟨j, _, e⟩ := List.mem_map.1 k2
        omega
      · have := (expo_range p.2 0 k k2).2.1
        obtain ⟨j, _, e⟩ := List.mem_map.1 k1
        omega
      · obtain ⟨i, hi, e⟩ := List.mem_map.1 k1
        obtain ⟨j, hj, e2⟩ := List.mem_map.1 k2
        have : i = j := by omega
        subst this
        exact bq i hi hj
theorem red_hv {p q : Tr × Tr} (hp : Bal p) (hq : Bal q) (h : ¬ (red p = one ∧ red q = one)) : red (hv p q) = hv (red p) (red q) := by
  rw [← red_nil (both_hv hp.red (red_both p) (red_both q) h)]
  refine red_ext (hp.hv hq) (hp.red.hv hq.red) (str_cases (fun s => ?_) (fun s => ?_))
  · rw [act_hv_l hp, act_hv_l hp.red, act_red hp]
  · rw [act_hv_r hp, act_hv_r hp.red, act_red hq]
theorem red_hv_one {p q : Tr × Tr} (hp : Bal p) (hq : Bal q) (h1 : red p = one) (h2 : red q = one) : red (hv p q) = one := by
  have e : red (hv p q) = red one := red_ext (hp.hv hq) Bal.one (str_cases (fun s => by rw [act_hv_l hp, ← act_red hp, h1, act_one, act_one]) (fun s => by rw [act_hv_r hp, ← act_red hq, h2, act_one, act_one]))
  rw [e]; rfl
theorem split_hv {p q : Tr × Tr} (hp : Bal p) (hq : Bal q) : splitT (red (hv p q)) = some (red p, red q) := by
  by_cases h : red p = one ∧ red q = one
  · rw [red_hv_one hp hq h.1 h.2, h.1, h.2]; rfl
  · rw [red_hv hp hq h]
    have := hp.red
    unfold Bal at this
    simp only [hv, splitT, if_pos this]
theorem red_one : red one = one := rfl
theorem mul_halves {p q : Tr × Tr} (hp : Bal p) (hq : Bal q) : mul (red (hv p one)) (red (hv one q)) = red (hv p q) ∧ mul (red (hv one q)) (red (hv p one)) = red (hv p q) := by
  have h1 := (hp.hv Bal.one)
  have h2 := (Bal.one.hv hq)
  have h3 := hp.hv hq
  have key : ∀ r t : Tr × Tr, Bal r → Bal t → (∀ s, act t (act r s) = act (hv p q) s) → mul r t = red (hv p q) := fun r t hr ht h =>
    pair_ext (hr.mul ht) h3.red (red_both _) (red_both _) fun s => by rw [act_mul hr ht, h, act_red h3]
  constructor
  · refine key _ _ h1.red h2.red (str_cases (fun s => ?_) (fun s => ?_))
    · rw [act_red h1, act_red h2, act_hv_l hp, act_hv_l Bal.one, act_hv_l hp, act_one]
    · rw [act_red h1, act_red h2, act_hv_r hp, act_hv_r Bal.one, act_hv_r hp, act_one]
  · refine key _ _ h2.red h1.red (str_cases (fun s => ?_) (fun s => ?_))
    · rw [act_red h1, act_red h2, act_hv_l Bal.one, act_hv_l hp, act_hv_l hp, act_one]
    · rw [act_red h1, act_red h2, act_hv_r Bal.one, act_hv_r hp, act_hv_r hp, act_one]
theorem hv_carets_le {p q : Tr × Tr} (hp : Bal p) (hq : Bal q) (h : (red (hv p q)).1.carets ≤ 8) : (red (hv p one)).1.carets ≤ 8 ∧ (red (hv one q)).1.carets ≤ 8 := by
  by_cases e : red p = one ∧ red q = one
  · rw [red_hv_one hp Bal.one e.1 red_one, red_hv_one Bal.one hq red_one e.2]; simp [one, Tr.carets]
  · rw [red_hv hp hq e] at h
    simp only [hv, Tr.carets] at h
    constructor
    · by_cases e1 : red p = one
      · rw [red_hv_one hp Bal.one e1 red_one]; simp [one, Tr.carets]
      · rw [red_hv hp Bal.one (fun k => e1 k.1)]
        simp only [hv, red_one]; simp only [one, Tr.carets]; omega
    · by_cases e1 : red q = one
      · rw [red_hv_one Bal.one hq red_one e1]; simp [one, Tr.carets]
      · rw [red_hv Bal.one hq (fun k => e1 k.2)]
        simp only [hv, red_one]; simp only [one, Tr.carets]; omega
theorem split_back {p a b : Tr × Tr} (hp : Bal p) (h : splitT (red p) = some (a, b)) : Bal a ∧ Bal b ∧ red (hv a b) = red p := by
  have hb := hp.red
  unfold Bal at hb
  rcases e : red p with ⟨A, B⟩
  rw [e] at h hb
  simp only at hb
  cases A with
  | leaf =>
    have : B = .leaf := carets_zero (by simp only [Tr.carets] at hb; omega)
    subst this
    simp only [splitT, Option.some.injEq, Prod.mk.injEq] at h
    obtain ⟨rfl, rfl⟩ := h
    exact ⟨rfl, rfl, rfl⟩
  | node l r =>
    cases B with
    | leaf => simp [splitT] at h
    | node c d =>
      simp only [splitT] at h
      split at h
      · rename_i hc
        simp only [Option.some.injEq, Prod.mk.injEq] at h
        obtain ⟨rfl, rfl⟩ := h
        simp only [Tr.carets] at hb
        refine ⟨hc, (by show r.carets = d.carets; omega), ?_⟩
        show red (Tr.node l r, Tr.node c d) = _
        rw [← e, red_red, e]
      · cases h
theorem conj_shift {p : Tr × Tr} (hp : Bal p) : conj (red (hv one p)) (gen 0) = red (hv one (red (hv one p))) := by
  have h1 := Bal.one.hv hp
  have hg : Bal (gen 0) := rfl
  have h2 := Bal.one.hv h1.red
  have g0 : ∀ s, act (gen 0) (scons false (scons false s)) = scons false s := fun s => rfl
  have g1 : ∀ s, act (gen 0) (scons false (scons true s)) = scons true (scons false s) := fun s => rfl
  have g2 : ∀ s, act (gen 0) (scons true s) = scons true (scons true s) := fun s => rfl
  have i0 : ∀ s, act (inv (gen 0)) (scons false s) = scons false (scons false s) := fun s => by have h := act_inv hg (scons false (scons false s)); rw [g0] at h; exact h
  have i1 : ∀ s, act (inv (gen 0)) (scons true (scons false s)) = scons false (scons true s) := fun s => by have h := act_inv hg (scons false (scons true s)); rw [g1] at h; exact h
  have i2 : ∀ s, act (inv (gen 0)) (scons true (scons true s)) = scons true s := fun s => by have h := act_inv hg (scons true s); rw [g2] at h; exact h
  have hm : Bal (mul (inv (gen 0)) (red (hv one p))) := hg.inv.mul h1.red
  show mul (mul (inv (gen 0)) (red (hv one p))) (gen 0) = _
  refine pair_ext (hm.mul hg) h2.red (red_both _) (red_both _) fun s => ?_
  rw [act_mul hm hg, act_mul hg.inv h1.red, act_red h2, act_red h1]
  refine str_cases (P := fun s => act (gen 0) (act (hv one p) (act (inv (gen 0)) s)) = act (hv one (red (hv one p))) s) (fun s => ?_) (str_cases (fun s => ?_) (fun s => ?_)) s
  · rw [i0, act_hv_l Bal.one, act_one, g0, act_hv_l Bal.one, act_one]
  · rw [i1, act_hv_l Bal.one, act_one, g1, act_hv_r Bal.one, act_red h1, act_hv_l Bal.one, act_one]
  · rw [i2, act_hv_r Bal.one, g2, act_hv_r Bal.one, act_red h1, act_hv_r Bal.one]
end Go.Proofs.YtpmmajfdcicjiaaGreat.N
