import Derived.Test.YtpmmajfdcicjiaaGreatG1RFnHalvesAndShifts
import Derived.Test.YtpmmajfdcicjiaaGreatG2RFnHalvesAndShifts
import Derived.Test.YtpmmajfdcicjiaaGreatProg
import Derived.Test.YtpmmajfdcicjiaaGreatG5RFnHalvesAndShifts
import Derived.Test.YtpmmajfdcicjiaaGreatG3RFnHalvesAndShifts
import Derived.Test.YtpmmajfdcicjiaaGreatG6RFnHalvesAndShifts
import Derived.Test.YtpmmajfdcicjiaaGreatG7RFnHalvesAndShifts
import Derived.Deep.LoopGhost
import Derived.StillTailTactics
/- Two pairs read. -/
namespace Go.Proofs.YtpmmajfdcicjiaaGreat.N
open Go.RowKit
set_option linter.unusedVariables false
set_option linter.unusedSimpArgs false

def TwoPost (w : World) (s1 t1 s2 t2 : ByteArray) (e : Ending) (w' : World) : Prop := ∃ pa pb pc pd b, e = .returned (.tuple #[.agg #[.pointer pa, .pointer pb], .agg #[.pointer pc, .pointer pd], .bool b]) ∧ Ext w w' ∧
  Hid (b = true → ∃ A B C D, s1 = tx A ∧ t1 = tx B ∧ s2 = tx C ∧ t2 = tx D ∧ A.carets = B.carets ∧ B.carets ≤ 8 ∧ C.carets = D.carets ∧ D.carets ≤ 8 ∧ Rep w' A pa ∧ Rep w' B pb ∧ Rep w' C pc ∧ Rep w' D pd) ∧ Hid (b = false → ¬ (Good s1 t1 ∧ Good s2 t2))
set_option maxHeartbeats 3200000 in
set_option maxRecDepth 100000 in
theorem two_calls (s1 t1 s2 t2 : ByteArray) (w : World) :
    Calls Tryz.prog 41 #[.agg #[.string s1, .string t1], .agg #[.string s2, .string t2]] w (TwoPost w s1 t1 s2 t2) := by
  have C1 := Lib.hid (pairOf_calls s1 t1)
  have C2 := Lib.hid (pairOf_calls s2 t2)
  let W0 := ((w.alloc (.cells #[.string s1, .string t1] 25)).alloc (.cells #[.string s2, .string t2] 25)).alloc (.cells #[.pointer none, .pointer none] 67)
  have X4 := Lib.hid (((((Ext.refl w).alloc (.cells #[.string s1, .string t1] 25)).alloc (.cells #[.string s2, .string t2] 25)).alloc (.cells #[.pointer none, .pointer none] 67)).alloc (.cells #[.pointer none, .pointer none] 67))
  have c0 : (W0.alloc (.cells #[.pointer none, .pointer none] 67)).cell? ⟨w.heap.size + 1, 0, none⟩ = some (.string s2) := by simp only [W0]; go_simp
  have c1 : (W0.alloc (.cells #[.pointer none, .pointer none] 67)).cell? ⟨w.heap.size + 1, 1, none⟩ = some (.string t2) := by simp only [W0]; go_simp
  have t0 := (Two.new ((w.alloc (.cells #[.string s1, .string t1] 25)).alloc (.cells #[.string s2, .string t2] 25)) (n := w.heap.size + 1 + 1) (.pointer none) (.pointer none) 67 (by simp)).ext ((Ext.refl _).alloc (.cells #[.pointer none, .pointer none] 67))
  have t1' := Two.new W0 (n := w.heap.size + 1 + 1 + 1) (.pointer none) (.pointer none) 67 (by simp [W0])
  have SZ : w.heap.size + 1 + 1 + 1 < (W0.alloc (.cells #[.pointer none, .pointer none] 67)).heap.size := by simp [W0]
  simp only [W0] at c0 c1 t1' SZ
  clear W0
  go_enter Tryz.func41, Tryz.ntmps41
  go_wp2_with fail
  generalize (((w.alloc (.cells #[.string s1, .string t1] 25)).alloc (.cells #[.string s2, .string t2] 25)).alloc (.cells #[.pointer none, .pointer none] 67)).alloc (.cells #[.pointer none, .pointer none] 67) = W at *
  refine (C1.out _).mono ?_
  rintro e w1 ⟨pa, pb, b1, rfl, x1, y1, n1⟩
  have d0 := (x1.alloc (.cells #[.pointer pa, .pointer pb] 67)).cell c0
  have d1 := (x1.alloc (.cells #[.pointer pa, .pointer pb] 67)).cell c1
  have B1 := heap_alloc_new w1 (.cells #[.pointer pa, .pointer pb] 67)
  have X1 := Lib.hid (x1.alloc (.cells #[.pointer pa, .pointer pb] 67))
  have SX := Lib.hid x1.size
  clear c0 c1 x1
  have XW := Lib.hid ((Ext.refl w1).alloc (.cells #[.pointer pa, .pointer pb] 67))
  have B1 := Lib.hid B1
  go_wp2_with fail
  have SZ1 : w.heap.size + 1 + 1 + 1 < w1.heap.size := Nat.lt_of_lt_of_le SZ SX.out
  generalize w1.alloc (.cells #[.pointer pa, .pointer pb] 67) = W1 at *
  refine (C2.out _).mono ?_
  rintro e w2 ⟨pc, pd, b2, rfl, x2, y2, n2⟩
  have B2 := heap_alloc_new w2 (.cells #[.pointer pc, .pointer pd] 67)
  have X2 := Lib.hid (x2.alloc (.cells #[.pointer pc, .pointer pd] 67))
  have B1' := X2.out.at B1.out
  have SZ2 : w1.heap.size < w2.heap.size := Nat.lt_of_lt_of_le (Array.getElem?_eq_some_iff.1 B1.out).1 x2.size
  have E1 := XW.out.trans X2.out
  have e0 := (t0.ext X1.out).ext X2.out
  have e1 := (t1'.ext X1.out).ext X2.out
  obtain ⟨g0, g1, g2, g3, g4, g5⟩ := e0.facts
  obtain ⟨l0, l1, l2, l3, l4, l5⟩ := e1.facts
  have E0 := Lib.hid e0
  have E1' := Lib.hid e1
  clear e0 e1 t0 t1' d0 d1
  obtain ⟨k0, k1⟩ := cells_of B1'
  obtain ⟨k2, k3⟩ := cells_of B2
  have Q2 := Lib.hid ((Ext.refl w2).alloc (.cells #[.pointer pc, .pointer pd] 67))
  have n1' : w1.heap.size ≠ w.heap.size + 1 + 1 := by omega
  have n2' : w1.heap.size ≠ w.heap.size + 1 + 1 + 1 := by omega
  have n3' : w2.heap.size ≠ w.heap.size + 1 + 1 := by omega
  have n4' : w2.heap.size ≠ w.heap.size + 1 + 1 + 1 := by omega
  clear B1' B2 E1 B1 SX SZ1 SZ2 SZ
  go_wp2_with fail
  generalize w2.alloc (.cells #[.pointer pc, .pointer pd] 67) = W2 at *
  have EN : Hid (∀ b, ((b1 && b2) = b) → ∀ a W, a.defers = [] → a.tmps[6]? = some (.bool b) → a.tmps[4]? = some (.pointer (some ⟨w.heap.size + 1 + 1, 0, none⟩)) → a.tmps[5]? = some (.pointer (some ⟨w.heap.size + 1 + 1 + 1, 0, none⟩)) →
      W = (N.set2 (N.set2 W2 (w.heap.size + 1 + 1) (.pointer pa) (.pointer pb)) (w.heap.size + 1 + 1 + 1) (.pointer pc) (.pointer pd)).drew → bodyPost Tryz.prog Tryz.f41 (TwoPost w s1 t1 s2 t2) .ret a W) := by
    intro b hb a W hd ha h4 h5 hW
    have F0 := E0.out
    have F1 : Two (N.set2 W2 (w.heap.size + 1 + 1) (.pointer pa) (.pointer pb)) (w.heap.size + 1 + 1 + 1) 67 := by
      obtain ⟨u, v, e⟩ := E1'.out
      exact ⟨u, v, by rw [set2_other (by omega)]; exact e⟩
    have H1 := set2_heap F1 (.pointer pc) (.pointer pd)
    have H0 : (N.set2 (N.set2 W2 (w.heap.size + 1 + 1) (.pointer pa) (.pointer pb)) (w.heap.size + 1 + 1 + 1) (.pointer pc) (.pointer pd)).heap[w.heap.size + 1 + 1]? = some (.cells #[.pointer pa, .pointer pb] 67) := by
      rw [set2_other (by omega)]; exact set2_heap F0 (.pointer pa) (.pointer pb)
    have XX := ((((X4.out.trans X1.out).trans X2.out).set2 (g := w.heap.size + 1 + 1) (by omega) (.pointer pa) (.pointer pb)).set2 (g := w.heap.size + 1 + 1 + 1) (by omega) (.pointer pc) (.pointer pd)).drew
    have RR : ∀ T p, Rep W2 T p → Rep W T p := by
      intro T p h
      subst hW
      exact (Rep.set2 F1 (by decide) _ _ (Rep.set2 F0 (by decide) _ _ h)).ext (Ext.refl _).drew
    obtain ⟨q0, q1⟩ := cells_of H0
    obtain ⟨q2, q3⟩ := cells_of H1
    rw [← hW] at XX
    have q0 : W.cell? ⟨w.heap.size + 1 + 1, 0, none⟩ = some (.pointer pa) := by rw [hW]; exact q0
    have q1 : W.cell? ⟨w.heap.size + 1 + 1, 1, none⟩ = some (.pointer pb) := by rw [hW]; exact q1
    have q2 : W.cell? ⟨w.heap.size + 1 + 1 + 1, 0, none⟩ = some (.pointer pc) := by rw [hW]; exact q2
    have q3 : W.cell? ⟨w.heap.size + 1 + 1 + 1, 1, none⟩ = some (.pointer pd) := by rw [hW]; exact q3
    refine bodyPost_ret (v := .tuple #[.agg #[.pointer pa, .pointer pb], .agg #[.pointer pc, .pointer pd], .bool b]) ?_ hd ⟨_, _, _, _, _, rfl, XX, ?_, ?_⟩
    · simp [results, Tryz.results41, go_sem, q0, q1, q2, q3, ha, h4, h5]
    · intro hbt
      subst hbt
      rw [Bool.and_eq_true] at hb
      obtain ⟨A, B, e1, e2, e3, e4, r1, r2⟩ := y1.out hb.1
      obtain ⟨C, D, f1, f2, f3, f4, r3, r4⟩ := y2.out hb.2
      have E := XW.out.trans X2.out
      have E2 := Q2.out
      exact ⟨A, B, C, D, e1, e2, f1, f2, e3, e4, f3, f4, RR _ _ (r1.ext E), RR _ _ (r2.ext E), RR _ _ (r3.ext E2), RR _ _ (r4.ext E2)⟩
    · intro hbf
      subst hbf
      rintro ⟨G1, G2⟩
      cases b1 with
      | false => exact n1.out rfl G1
      | true =>
        cases b2 with
        | false => exact n2.out rfl G2
        | true => cases hb
  clear y1 y2 n1 n2 X4 X1 XW X2 E0 E1' Q2
  cases b1 <;> cases b2
  all_goals
    go_region
    go_wp2_with fail
  case false.false => exact EN.out false rfl _ _ rfl rfl rfl rfl rfl
  case false.true => exact EN.out false rfl _ _ rfl rfl rfl rfl rfl
  case true.false => exact EN.out false rfl _ _ rfl rfl rfl rfl rfl
  case true.true => exact EN.out true rfl _ _ rfl rfl rfl rfl rfl

theorem two_yes (A B C D : Tr) (hc : A.carets = B.carets) (hB : B.carets ≤ 8) (hd : C.carets = D.carets) (hD : D.carets ≤ 8) (w : World) : Calls Tryz.prog 41 #[.agg #[.string (tx A), .string (tx B)], .agg #[.string (tx C), .string (tx D)]] w fun e w' => ∃ pa pb pc pd, e = .returned (.tuple #[.agg #[.pointer pa, .pointer pb], .agg #[.pointer pc, .pointer pd], .bool true]) ∧ Rep w' A pa ∧ Rep w' B pb ∧ Rep w' C pc ∧ Rep w' D pd ∧ Ext w w' := by
  refine (two_calls _ _ _ _ w).mono ?_
  rintro e w1 ⟨pa, pb, pc, pd, b, rfl, x1, y1, n1⟩
  cases b with
  | false => exact absurd ⟨⟨A, B, rfl, rfl, hc, hB⟩, ⟨C, D, rfl, rfl, hd, hD⟩⟩ (n1.out rfl)
  | true =>
    obtain ⟨A', B', C', D', h1, h2, h3, h4, _, _, _, _, rA, rB, rC, rD⟩ := y1.out rfl
    obtain rfl := tx_inj h1
    obtain rfl := tx_inj h2
    obtain rfl := tx_inj h3
    obtain rfl := tx_inj h4
    exact ⟨pa, pb, pc, pd, rfl, rA, rB, rC, rD, x1⟩
theorem two_no (s1 t1 s2 t2 : ByteArray) (h : ¬ (Good s1 t1 ∧ Good s2 t2)) (w : World) : Calls Tryz.prog 41 #[.agg #[.string s1, .string t1], .agg #[.string s2, .string t2]] w fun e w' => ∃ pa pb pc pd, e = .returned (.tuple #[.agg #[.pointer pa, .pointer pb], .agg #[.pointer pc, .pointer pd], .bool false]) ∧ Ext w w' := by
  refine (two_calls _ _ _ _ w).mono ?_
  rintro e w1 ⟨pa, pb, pc, pd, b, rfl, x1, y1, n1⟩
  cases b with
  | false => exact ⟨pa, pb, pc, pd, rfl, x1⟩
  | true =>
    obtain ⟨A', B', C', D', h1, h2, h3, h4, g1, g2, g3, g4, rA, rB, rC, rD⟩ := y1.out rfl
    exact absurd ⟨⟨A', B', h1, h2, g1, g2⟩, ⟨C', D', h3, h4, g3, g4⟩⟩ h
end Go.Proofs.YtpmmajfdcicjiaaGreat.N
/- The pairs of halves. -/
namespace Go.Proofs.YtpmmajfdcicjiaaGreat.N
open Go.RowKit
set_option linter.unusedVariables false
set_option linter.unusedSimpArgs false

theorem boxSS_facts (w : World) (s t s2 t2 : ByteArray) (x y : Value) (ty : TypeId) :
    Ext w (((w.alloc (.cells #[.string s, .string t] 25)).alloc (.cells #[.string s2, .string t2] 25)).alloc (.cells #[x, y] ty)) ∧
    Two (((w.alloc (.cells #[.string s, .string t] 25)).alloc (.cells #[.string s2, .string t2] 25)).alloc (.cells #[x, y] ty)) (w.heap.size + 1 + 1) ty :=
  ⟨(((Ext.refl w).alloc _).alloc _).alloc _, Two.new _ _ _ _ (by simp)⟩
set_option maxHeartbeats 3200000 in
set_option maxRecDepth 100000 in
theorem HalvesPair_yes (A B C D : Tr) (hc : A.carets = B.carets) (hB : B.carets ≤ 8) (hd : C.carets = D.carets) (hD : D.carets ≤ 8) (w : World) :
    Calls Tryz.prog 7 #[.agg #[.string (tx A), .string (tx B)], .agg #[.string (tx C), .string (tx D)]] w fun e w' => e = .returned (ifP (red (.node A C, .node B D))) ∧ Ext w w' := by
  obtain ⟨X2, t0⟩ := boxSS_facts w (tx A) (tx B) (tx C) (tx D) (.string ⟨#[]⟩) (.string ⟨#[]⟩) 25
  have X2 := Lib.hid X2
  have C1 := Lib.hid (two_yes A B C D hc hB hd hD)
  have C2 := Lib.hid (fun pa pb pc pd W => halves_calls A B C D (by omega) (by omega) pa pb pc pd W)
  have LE := red_le (.node A C, .node B D)
  have C3 := Lib.hid (fun pa pb W => fits_calls (red (.node A C, .node B D)).1 (red (.node A C, .node B D)).2 (by simp only [Tr.carets] at LE; omega) (by simp only [Tr.carets] at LE; omega) pa pb W)
  obtain ⟨s, t, b, hb⟩ := ifP_two (red (.node A C, .node B D))
  rw [show ((red (.node A C, .node B D)).1, (red (.node A C, .node B D)).2) = red (.node A C, .node B D) from rfl, hb] at C3
  rw [hb]
  clear hc hB hd hD LE hb
  go_enter Tryz.func7, Tryz.ntmps7
  go_wp2_with fail
  generalize ((w.alloc (.cells #[.string (tx A), .string (tx B)] 25)).alloc (.cells #[.string (tx C), .string (tx D)] 25)).alloc (.cells #[.string ⟨#[]⟩, .string ⟨#[]⟩] 25) = W at *
  refine (C1.out _).mono ?_
  rintro e w1 ⟨pa, pb, pc, pd, rfl, rA, rB, rC, rD, x1⟩
  have xx := ((Ext.refl w1).alloc (.cells #[.pointer pa, .pointer pb] 67)).alloc (.cells #[.pointer pc, .pointer pd] 67)
  have X1 := Lib.hid (x1.trans xx)
  have RA := Lib.hid (rA.ext xx)
  have RB := Lib.hid (rB.ext xx)
  have RC := Lib.hid (rC.ext xx)
  have RD := Lib.hid (rD.ext xx)
  have T0 := Lib.hid (t0.ext X1.out)
  clear rA rB rC rD t0 x1 xx
  go_wp2_with fail
  generalize (w1.alloc (.cells #[.pointer pa, .pointer pb] 67)).alloc (.cells #[.pointer pc, .pointer pd] 67) = W1 at *
  refine (C2.out pa pb pc pd _ RA.out RB.out RC.out RD.out).mono ?_
  rintro e w2 ⟨p1, p2, rfl, r1, r2, x2⟩
  have X2' := Lib.hid (X1.out.trans x2)
  have R1 := Lib.hid r1
  have R2 := Lib.hid r2
  clear r1 r2
  have T2 := Lib.hid (T0.out.ext x2)
  clear x2
  go_wp2_with fail
  refine (C3.out p1 p2 _ R1.out R2.out).mono ?_
  rintro e w3 ⟨rfl, x3⟩
  have X3 := Lib.hid (X2'.out.trans x3)
  have T3 := T2.out.ext x3
  obtain ⟨u, v, k0, k1, f0, f1⟩ := T3.facts
  have T3 := Lib.hid T3
  clear x3
  go_wp2_with fail
  have HH := set2_heap T3.out (.string s) (.string t)
  have XX := (X2.out.trans X3.out).set2 (g := w.heap.size + 1 + 1) (by omega) (.string s) (.string t)
  change bodyPost _ _ _ _ _ (N.set2 _ (w.heap.size + 1 + 1) (.string s) (.string t))
  obtain ⟨hc0, hc1⟩ := cells_of HH
  generalize N.set2 _ (w.heap.size + 1 + 1) (.string s) (.string t) = W3 at *
  exact bodyPost_ret (v := .tuple #[.agg #[.string s, .string t], .bool b]) (by simp [results, Tryz.results7, go_sem, hc0, hc1]) rfl ⟨rfl, XX⟩
set_option maxHeartbeats 3200000 in
set_option maxRecDepth 100000 in
theorem HalvesPair_no (s1 t1 s2 t2 : ByteArray) (h : ¬ (Good s1 t1 ∧ Good s2 t2)) (w : World) :
    Calls Tryz.prog 7 #[.agg #[.string s1, .string t1], .agg #[.string s2, .string t2]] w fun e w' => e = .returned (.tuple #[emptyP, .bool false]) ∧ Ext w w' := by
  obtain ⟨X2, t0⟩ := boxSS_facts w s1 t1 s2 t2 (.string ⟨#[]⟩) (.string ⟨#[]⟩) 25
  have X2 := Lib.hid X2
  have C1 := Lib.hid (two_no s1 t1 s2 t2 h)
  clear h
  go_enter Tryz.func7, Tryz.ntmps7
  go_wp2_with fail
  generalize ((w.alloc (.cells #[.string s1, .string t1] 25)).alloc (.cells #[.string s2, .string t2] 25)).alloc (.cells #[.string ⟨#[]⟩, .string ⟨#[]⟩] 25) = W at *
  refine (C1.out _).mono ?_
  rintro e w1 ⟨pa, pb, pc, pd, rfl, x1⟩
  have X1 := Lib.hid ((x1.alloc (.cells #[.pointer pa, .pointer pb] 67)).alloc (.cells #[.pointer pc, .pointer pd] 67))
  have T3 := t0.ext X1.out
  obtain ⟨u, v, k0, k1, f0, f1⟩ := T3.facts
  have T3 := Lib.hid T3
  clear t0 x1
  go_wp2_with fail
  have HH := set2_heap T3.out (.string ⟨#[]⟩) (.string ⟨#[]⟩)
  have XX := (X2.out.trans X1.out).set2 (g := w.heap.size + 1 + 1) (by omega) (.string ⟨#[]⟩) (.string ⟨#[]⟩)
  change bodyPost _ _ _ _ _ (N.set2 _ (w.heap.size + 1 + 1) (.string ⟨#[]⟩) (.string ⟨#[]⟩))
  obtain ⟨hc0, hc1⟩ := cells_of HH
  generalize N.set2 _ (w.heap.size + 1 + 1) (.string ⟨#[]⟩) (.string ⟨#[]⟩) = W3 at *
  exact bodyPost_ret (v := .tuple #[emptyP, .bool false]) (by simp [results, Tryz.results7, go_sem, hc0, hc1, emptyP]) rfl ⟨rfl, XX⟩
end Go.Proofs.YtpmmajfdcicjiaaGreat.N
