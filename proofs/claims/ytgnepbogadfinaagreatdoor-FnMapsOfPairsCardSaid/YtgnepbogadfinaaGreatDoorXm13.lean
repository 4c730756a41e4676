import Derived.Deep.CutRange
import Derived.Test.YtgnepbogadfinaaGreatDoorXm11
/- A part of the proof: lemmas that later parts use. -/
set_option linter.unusedVariables false
set_option linter.unusedSimpArgs false
namespace Go.Proofs.YtgnepbogadfinaaGreatDoor.N
open Go.RowKit
def pb (x y : ByteArray) (b : Bool) : Value := .tuple #[.agg #[.string x, .string y], .bool b]
end Go.Proofs.YtgnepbogadfinaaGreatDoor.N
namespace Go.Proofs.YtgnepbogadfinaaGreatDoor.N
open Go.RowKit
set_option maxHeartbeats 3200000 in
set_option maxRecDepth 100000 in
theorem ProductPair_yes (A B C D : Tr) (hc : A.carets = B.carets) (hB : B.carets ≤ 8) (hd : C.carets = D.carets) (hD : D.carets ≤ 8) (w : World) :
    Calls Tryz.prog 11 #[.agg #[.string (tx A), .string (tx B)], .agg #[.string (tx C), .string (tx D)]] w fun e w' => e = .returned (ifP (mul (A, B) (C, D))) ∧ Ext w w' := by
  obtain ⟨X2, t0⟩ := boxSS_facts w (tx A) (tx B) (tx C) (tx D) (.string ⟨#[]⟩) (.string ⟨#[]⟩) 25
  have X2 := Lib.hid X2
  have C1 := Lib.hid (two_yes A B C D hc hB hd hD)
  have C2 := Lib.hid (fun pa pb pc pd W ra rb rc rd => times_calls A B C D hc hd (by omega) (by omega) pa pb pc pd W ra rb rc rd)
  have LE := mul_carets (p := (A, B)) (q := (C, D)) hc hd
  simp only at LE
  have C3 := Lib.hid (fun pa pb W => fits_calls (mul (A, B) (C, D)).1 (mul (A, B) (C, D)).2 (by omega) (by omega) pa pb W)
  obtain ⟨s, t, b, hb⟩ := ifP_two (mul (A, B) (C, D))
  rw [show ((mul (A, B) (C, D)).1, (mul (A, B) (C, D)).2) = mul (A, B) (C, D) from rfl, hb] at C3
  rw [hb]
  clear hc hB hd hD LE hb
  go_enter Tryz.func11, Tryz.ntmps11
  go_wp2_with fail
  generalize ((w.alloc (.cells #[.string (tx A), .string (tx B)] 25)).alloc (.cells #[.string (tx C), .string (tx D)] 25)).alloc (.cells #[.string ⟨#[]⟩, .string ⟨#[]⟩] 25) = W at *
  refine (C1.out _).mono ?_
  rintro e w1 ⟨pa, pb, pc, pd, rfl, rA, rB, rC, rD, x1⟩
  have xx := ((Ext.refl w1).alloc (.cells #[.pointer pa, .pointer pb] 53)).alloc (.cells #[.pointer pc, .pointer pd] 53)
  have X1 := Lib.hid (x1.trans xx)
  have RA := Lib.hid (rA.ext xx)
  have RB := Lib.hid (rB.ext xx)
  have RC := Lib.hid (rC.ext xx)
  have RD := Lib.hid (rD.ext xx)
  have T0 := Lib.hid (t0.ext X1.out)
  clear rA rB rC rD t0 x1 xx
  go_wp2_with fail
  generalize (w1.alloc (.cells #[.pointer pa, .pointer pb] 53)).alloc (.cells #[.pointer pc, .pointer pd] 53) = W1 at *
  refine (C2.out pa pb pc pd _ RA.out RB.out RC.out RD.out).mono ?_
  rintro e w2 ⟨p1, p2, rfl, r1, r2, x2⟩
  have X2' := Lib.hid (X1.out.trans x2)
  have R1 := Lib.hid r1
  have R2 := Lib.hid r2
  clear r1 r2
  have T2 := Lib.hid (T0.out.ext x2)
  clear x2
  go_wp2_with fail
  refine (C3.out p1 p2 _ R1.out R2.out).mono ?_
  rintro e w3 ⟨rfl, x3⟩
  have X3 := Lib.hid (X2'.out.trans x3)
  have T3 := T2.out.ext x3
  obtain ⟨u, v, k0, k1, f0, f1⟩ := T3.facts
  have T3 := Lib.hid T3
  clear x3
  go_wp2_with fail
  have HH := set2_heap T3.out (.string s) (.string t)
  have XX := (X2.out.trans X3.out).set2 (g := w.heap.size + 1 + 1) (by omega) (.string s) (.string t)
  change bodyPost _ _ _ _ _ (N.set2 _ (w.heap.size + 1 + 1) (.string s) (.string t))
  obtain ⟨hc0, hc1⟩ := cells_of HH
  generalize N.set2 _ (w.heap.size + 1 + 1) (.string s) (.string t) = W3 at *
  exact bodyPost_ret (v := .tuple #[.agg #[.string s, .string t], .bool b]) (by simp [results, Tryz.results11, go_sem, hc0, hc1]) rfl ⟨rfl, XX⟩
set_option maxHeartbeats 3200000 in
set_option maxRecDepth 100000 in
theorem ProductPair_no (s1 t1 s2 t2 : ByteArray) (h : ¬ (Good s1 t1 ∧ Good s2 t2)) (w : World) :
    Calls Tryz.prog 11 #[.agg #[.string s1, .string t1], .agg #[.string s2, .string t2]] w fun e w' => e = .returned (.tuple #[emptyP, .bool false]) ∧ Ext w w' := by
  obtain ⟨X2, t0⟩ := boxSS_facts w s1 t1 s2 t2 (.string ⟨#[]⟩) (.string ⟨#[]⟩) 25
  have X2 := Lib.hid X2
  have C1 := Lib.hid (two_no s1 t1 s2 t2 h)
  clear h
  go_enter Tryz.func11, Tryz.ntmps11
  go_wp2_with fail
  generalize ((w.alloc (.cells #[.string s1, .string t1] 25)).alloc (.cells #[.string s2, .string t2] 25)).alloc (.cells #[.string ⟨#[]⟩, .string ⟨#[]⟩] 25) = W at *
  refine (C1.out _).mono ?_
  rintro e w1 ⟨pa, pb, pc, pd, rfl, x1⟩
  have X1 := Lib.hid ((x1.alloc (.cells #[.pointer pa, .pointer pb] 53)).alloc (.cells #[.pointer pc, .pointer pd] 53))
  have T3 := t0.ext X1.out
  obtain ⟨u, v, k0, k1, f0, f1⟩ := T3.facts
  have T3 := Lib.hid T3
  clear t0 x1
  go_wp2_with fail
  have HH := set2_heap T3.out (.string ⟨#[]⟩) (.string ⟨#[]⟩)
  have XX := (X2.out.trans X1.out).set2 (g := w.heap.size + 1 + 1) (by omega) (.string ⟨#[]⟩) (.string ⟨#[]⟩)
  change bodyPost _ _ _ _ _ (N.set2 _ (w.heap.size + 1 + 1) (.string ⟨#[]⟩) (.string ⟨#[]⟩))
  obtain ⟨hc0, hc1⟩ := cells_of HH
  generalize N.set2 _ (w.heap.size + 1 + 1) (.string ⟨#[]⟩) (.string ⟨#[]⟩) = W3 at *
  exact bodyPost_ret (v := .tuple #[emptyP, .bool false]) (by simp [results, Tryz.results11, go_sem, hc0, hc1, emptyP]) rfl ⟨rfl, XX⟩
set_option maxHeartbeats 3200000 in
set_option maxRecDepth 100000 in
theorem ReducePair_yes (A B : Tr) (hc : A.carets = B.carets) (hB : B.carets ≤ 8) (w : World) :
    Calls Tryz.prog 9 #[.agg #[.string (tx A), .string (tx B)]] w fun e w' => e = .returned (.tuple #[.agg #[.string (tx (red (A, B)).1), .string (tx (red (A, B)).2)], .bool true]) ∧ Ext w w' := by
  obtain ⟨X2, t0⟩ := boxS_facts w (tx A) (tx B) (.string ⟨#[]⟩) (.string ⟨#[]⟩) 25
  have X2 := Lib.hid X2
  have C1 := Lib.hid (pairOf_yes A B hc hB)
  have C2 := Lib.hid (fun pa pb W ra rb => reduced_calls A B (by omega) (by omega) pa pb W ra rb)
  have LE : (red (A, B)).1.carets ≤ 8 ∧ (red (A, B)).2.carets ≤ 8 := by have := red_le (A, B); simp only at this; omega
  have C3 := Lib.hid (fun pa pb W (ra : Rep W (red (A, B)).1 pa) (rb : Rep W (red (A, B)).2 pb) => plain_calls (red (A, B)).1 (red (A, B)).2 (by omega) (by omega) pa pb W ra rb)
  generalize tx (red (A, B)).1 = s at *
  generalize tx (red (A, B)).2 = t at *
  clear hc hB LE
  go_enter Tryz.func9, Tryz.ntmps9
  go_wp2_with fail
  generalize (w.alloc (.cells #[.string (tx A), .string (tx B)] 25)).alloc (.cells #[.string ⟨#[]⟩, .string ⟨#[]⟩] 25) = W at *
  refine (C1.out _).mono ?_
  rintro e w1 ⟨pa, pb, rfl, rA, rB, x1⟩
  have X1 := Lib.hid (x1.alloc (.cells #[.pointer pa, .pointer pb] 53))
  have RA := Lib.hid (rA.ext ((Ext.refl w1).alloc (.cells #[.pointer pa, .pointer pb] 53)))
  have RB := Lib.hid (rB.ext ((Ext.refl w1).alloc (.cells #[.pointer pa, .pointer pb] 53)))
  have T0 := Lib.hid (t0.ext X1.out)
  clear rA rB t0 x1
  go_wp2_with fail
  generalize w1.alloc (.cells #[.pointer pa, .pointer pb] 53) = W1 at *
  refine (C2.out pa pb _ RA.out RB.out).mono ?_
  rintro e w2 ⟨p1, p2, rfl, r1, r2, x2⟩
  have X2' := Lib.hid (X1.out.trans x2)
  have R1 := Lib.hid r1
  have R2 := Lib.hid r2
  clear r1 r2
  have T2 := Lib.hid (T0.out.ext x2)
  clear x2
  go_wp2_with fail
  refine (C3.out p1 p2 _ R1.out R2.out).mono ?_
  rintro e w3 ⟨rfl, x3⟩
  have X3 := Lib.hid (X2'.out.trans x3)
  have T3 := T2.out.ext x3
  obtain ⟨u, v, k0, k1, f0, f1⟩ := T3.facts
  have T3 := Lib.hid T3
  clear x3
  go_wp2_with fail
  have HH := set2_heap T3.out (.string s) (.string t)
  have XX := (X2.out.trans X3.out).set2 (g := w.heap.size + 1) (by omega) (.string s) (.string t)
  change bodyPost _ _ _ _ _ (N.set2 _ (w.heap.size + 1) (.string s) (.string t))
  obtain ⟨hc0, hc1⟩ := cells_of HH
  generalize N.set2 _ (w.heap.size + 1) (.string s) (.string t) = W3 at *
  exact bodyPost_ret (v := .tuple #[.agg #[.string s, .string t], .bool true]) (by simp [results, Tryz.results9, go_sem, hc0, hc1]) rfl ⟨rfl, XX⟩
set_option maxHeartbeats 3200000 in
set_option maxRecDepth 100000 in
theorem InversePair_yes (A B : Tr) (hc : A.carets = B.carets) (hB : B.carets ≤ 8) (w : World) :
    Calls Tryz.prog 8 #[.agg #[.string (tx A), .string (tx B)]] w fun e w' => e = .returned (.tuple #[.agg #[.string (tx B), .string (tx A)], .bool true]) ∧ Ext w w' := by
  obtain ⟨X2, t0⟩ := boxS_facts w (tx A) (tx B) (.string ⟨#[]⟩) (.string ⟨#[]⟩) 25
  have X2 := Lib.hid X2
  have C1 := Lib.hid (pairOf_yes A B hc hB)
  have C2 := Lib.hid (fun pa pb W => inverse_calls pa pb W)
  have LE : B.carets ≤ 8 ∧ A.carets ≤ 8 := by omega
  have C3 := Lib.hid (fun pa pb W (ra : Rep W B pa) (rb : Rep W A pb) => plain_calls B A (by omega) (by omega) pa pb W ra rb)
  generalize tx B = s at *
  generalize tx A = t at *
  clear hc hB LE
  go_enter Tryz.func8, Tryz.ntmps8
  go_wp2_with fail
  generalize (w.alloc (.cells #[.string t, .string s] 25)).alloc (.cells #[.string ⟨#[]⟩, .string ⟨#[]⟩] 25) = W at *
  refine (C1.out _).mono ?_
  rintro e w1 ⟨pa, pb, rfl, rA, rB, x1⟩
  have X1 := Lib.hid (x1.alloc (.cells #[.pointer pa, .pointer pb] 53))
  have RA := Lib.hid (rA.ext ((Ext.refl w1).alloc (.cells #[.pointer pa, .pointer pb] 53)))
  have RB := Lib.hid (rB.ext ((Ext.refl w1).alloc (.cells #[.pointer pa, .pointer pb] 53)))
  have T0 := Lib.hid (t0.ext X1.out)
  clear rA rB t0 x1
  go_wp2_with fail
  generalize w1.alloc (.cells #[.pointer pa, .pointer pb] 53) = W1 at *
  refine (C2.out pa pb _).mono ?_
  rintro e w2 ⟨rfl, x2⟩
  have X2' := Lib.hid (X1.out.trans x2)
  obtain ⟨p1, h1⟩ : ∃ p1, p1 = pb := ⟨_, rfl⟩
  obtain ⟨p2, h2⟩ : ∃ p2, p2 = pa := ⟨_, rfl⟩
  have R1 := Lib.hid (RB.out.ext x2)
  have R2 := Lib.hid (RA.out.ext x2)
  rw [← h1] at R1 ⊢
  rw [← h2] at R2 ⊢
  clear h1 h2
  have T2 := Lib.hid (T0.out.ext x2)
  clear x2
  go_wp2_with fail
  refine (C3.out p1 p2 _ R1.out R2.out).mono ?_
  rintro e w3 ⟨rfl, x3⟩
  have X3 := Lib.hid (X2'.out.trans x3)
  have T3 := T2.out.ext x3
  obtain ⟨u, v, k0, k1, f0, f1⟩ := T3.facts
  have T3 := Lib.hid T3
  clear x3
  go_wp2_with fail
  have HH := set2_heap T3.out (.string s) (.string t)
  have XX := (X2.out.trans X3.out).set2 (g := w.heap.size + 1) (by omega) (.string s) (.string t)
  change bodyPost _ _ _ _ _ (N.set2 _ (w.heap.size + 1) (.string s) (.string t))
  obtain ⟨hc0, hc1⟩ := cells_of HH
  generalize N.set2 _ (w.heap.size + 1) (.string s) (.string t) = W3 at *
  exact bodyPost_ret (v := .tuple #[.agg #[.string s, .string t], .bool true]) (by simp [results, Tryz.results8, go_sem, hc0, hc1]) rfl ⟨rfl, XX⟩
end Go.Proofs.YtgnepbogadfinaaGreatDoor.N
namespace Go.Proofs.YtgnepbogadfinaaGreatDoor.N
open Go.RowKit
theorem carr_facts (A B : Tr) (hc : A.carets = B.carets) (hB : B.carets ≤ 30) (p : Nat) (hp : p ≤ 1099511627776) : ∃ a b, (addrs A [])[fi p (addrs A [])]? = some a ∧ (addrs B [])[fi p (addrs A [])]? = some b ∧ a.length ≤ 40 ∧ b.length ≤ 40 ∧ plA a ≤ p ∧ p ≤ plA a + part a.length ∧ vaF A B p = vaL a b p := by
  have h1 := addrs_chn A [] (by have := A.depth_le; simp; omega)
  have e0 : plA ([] : List UInt8) = 0 := rfl
  rw [e0] at h1
  have e1 : (0 : Nat) + part ([] : List UInt8).length = 1099511627776 := by decide
  rw [e1] at h1
  have hn : addrs A [] ≠ [] := fun h => by have := addrs_length A []; rw [h] at this; simp at this
  obtain ⟨a, ha, h2, h3⟩ := fi_in p _ _ _ h1 hn (Nat.zero_le _) hp
  have hk : fi p (addrs A []) < (addrs B []).length := by
    have := (List.getElem?_eq_some_iff.1 ha).1
    rw [addrs_length] at this ⊢; omega
  have hb := List.getElem?_eq_getElem hk
  refine ⟨a, _, ha, hb, ?_, ?_, h2, h3, ?_⟩
  · have := addrs_depth A [] a (List.mem_of_getElem? ha); have := A.depth_le; simp at *; omega
  · have := addrs_depth B [] _ (List.getElem_mem hk); have := B.depth_le; simp at *; omega
  · unfold vaF
    rw [List.getD_eq_getElem?_getD, ha, List.getD_eq_getElem?_getD, hb]; rfl
set_option maxHeartbeats 1600000 in
theorem pieceValue (a b : List UInt8) (p : Nat) (hal : a.length ≤ 40) (hbl : b.length ≤ 40) (hp : p ≤ 1099511627776) (h1 : plA a ≤ p) (h2 : p ≤ plA a + part a.length) (W : World) :
    Calls Tryz.prog 57 #[.agg #[.int .i64 (plA a : Nat), .int .i64 (plA b : Nat), .int .i64 (a.length : Nat), .int .i64 (b.length : Nat)], .int .i64 p] W fun e w' => e = .returned (.int .i64 (vaL a b p : Nat)) ∧ Ext W w' := by
  obtain ⟨v1, v2⟩ := vaL_le a b p hal hbl h1 h2
  have HA0 : plA a + part a.length ≤ 1099511627776 := plI_le a a.length hal
  have HB0 : plA b + part b.length ≤ 1099511627776 := plI_le b b.length hbl
  unfold vaL
  generalize plA a = x at *
  generalize plA b = y at *
  by_cases hl : b.length ≤ a.length
  · rw [if_pos hl]
    have hx := v2 hl
    have e1 : (((p - x) * 2 ^ (a.length - b.length) : Nat) : Int) = ((p : Int) - (x : Nat)) * 2 ^ (a.length - b.length) := by
      rw [Int.natCast_mul, Int.natCast_pow, Int.natCast_sub h1]; rfl
    have e2 : ((p : Int) - (x : Nat)) * 2 ^ (a.length - b.length) ≤ 1099511627776 := by rw [← e1]; omega
    refine (value_up (x : Nat) (y : Nat) p a.length b.length hl hal (by omega) (by omega) e2 W).mono ?_
    rintro e w' ⟨rfl, x⟩
    exact ⟨by rw [Int.natCast_add, e1], x⟩
  · rw [if_neg hl]
    have e1 : (((p - x) / 2 ^ (b.length - a.length) : Nat) : Int) = ((p : Int) - (x : Nat)) / 2 ^ (b.length - a.length) := by
      rw [Int.natCast_ediv, Int.natCast_pow, Int.natCast_sub h1]; rfl
    refine (value_down (x : Nat) (y : Nat) p a.length b.length (by omega) hbl (by omega) (by omega) W).mono ?_
    rintro e w' ⟨rfl, x⟩
    exact ⟨by rw [Int.natCast_add, e1], x⟩
set_option maxHeartbeats 3200000 in
set_option maxRecDepth 100000 in
theorem carried_calls (A B : Tr) (hc : A.carets = B.carets) (hB : B.carets ≤ 30) (p : Nat) (hp : p ≤ 1099511627776) (pa pb : Option Addr) (w : World) (ra : Rep w A pa) (rb : Rep w B pb) :
    Calls Tryz.prog 24 #[.agg #[.pointer pa, .pointer pb], .int .i64 p] w fun e w' => e = .returned (.int .i64 (vaF A B p : Nat)) ∧ vaF A B p ≤ 1099511627776 ∧ Ext w w' := by
  have X0 := Lib.hid ((Ext.refl w).alloc (.cells #[.pointer pa, .pointer pb] 53))
  obtain ⟨c0, c1⟩ := cells_of (heap_alloc_new w (.cells #[.pointer pa, .pointer pb] 53))
  have C1 := Lib.hid (fun W (h : Ext w W) => pieces_calls A B hc hB pa pb W (ra.ext h) (rb.ext h))
  have LA := addrs_length A []
  have LB := addrs_length B []
  have C2 := Lib.hid (fun base v W => pieceAt_calls (addrs A []) (addrs B []) (by omega) (by omega) (by omega) (fun x hx => by have := addrs_depth A [] x hx; have := A.depth_le; simp at *; omega) p base hp v W)
  obtain ⟨a, b, ha, hb, hal, hbl, h1, h2, hv⟩ := carr_facts A B hc hB p hp
  obtain ⟨v1, v2⟩ := vaL_le a b p hal hbl h1 h2
  rw [pcAt_fi, ha, hb, LA] at C2
  have E : Hid (vaF A B p = vaL a b p) := hv
  have V1 := Lib.hid v1
  have C3 := Lib.hid (fun W => pieceValue a b p hal hbl hp h1 h2 W)
  rw [E.out]
  generalize vaL a b p = z at *
  change Hid (∀ base v W, _ → Calls _ _ _ W fun e w' => ∃ a' b', _ ∧ _ ∧ e = .returned (.agg (pcV a' b').toArray) ∧ Ext W w') at C2
  clear hc hB ra rb LA LB hp h1 h2 hv v1 v2 hal hbl ha hb E
  have PV : Hid ((pcV a b).toArray = #[.int .i64 (plA a : Nat), .int .i64 (plA b : Nat), .int .i64 (a.length : Nat), .int .i64 (b.length : Nat)]) := rfl
  generalize plA a = na at *
  generalize plA b = nb at *
  generalize addrs A [] = la at *
  generalize addrs B [] = lb at *
  go_enter Tryz.func24, Tryz.ntmps24
  go_wp2_with fail
  generalize w.alloc (.cells #[.pointer pa, .pointer pb] 53) = W at *
  refine (C1.out _ X0.out).mono ?_
  rintro e w1 ⟨v1, rfl, o1, x1⟩
  have X1 := Lib.hid (X0.out.trans x1)
  have O1 := Lib.hid o1
  clear o1 x1
  go_wp2_with fail
  refine (C2.out _ _ _ O1.out).mono ?_
  rintro e w2 ⟨a', b', ha', hb', rfl, x2⟩
  cases ha'; cases hb'
  rw [PV.out]
  have X2 := Lib.hid (X1.out.trans x2)
  clear x2
  go_wp2_with fail
  refine (C3.out _).mono ?_
  rintro e w3 ⟨rfl, x3⟩
  have X3 := Lib.hid (X2.out.trans x3)
  clear x3
  go_wp2_with fail
  go_ret
  exact ⟨rfl, V1.out, X3.out⟩
def FrV : Option (Nat × Nat) → Value
  | none => .tuple #[.agg #[.int .i64 0, .int .i64 0], .bool false]
  | some x => .tuple #[.agg #[.int .i64 x.1, .int .i64 x.2], .bool true]
set_option maxHeartbeats 3200000 in
set_option maxRecDepth 100000 in
theorem toldAt_calls (p : Nat) (hp : p ≤ 1099511627776) (w : World) :
    Calls Tryz.prog 23 #[.int .i64 p] w fun e w' => e = .returned (FrV (frF p)) ∧ Ext w w' := by
  have X0 := Lib.hid ((Ext.refl w).alloc (.cells #[.int .i64 0, .int .i64 0] 27))
  have T0 := Lib.hid (Two.new w (.int .i64 0) (.int .i64 0) 27 rfl)
  have C1 := Lib.hid (fun W => fractionAt_calls p hp W)
  unfold frF
  generalize halve 40 p 1099511627776 = x at *
  obtain ⟨q, d⟩ := x
  simp only at C1 ⊢
  clear hp
  by_cases hd : d ≤ 1024
  · rw [decide_eq_true hd] at C1
    rw [if_pos hd]
    clear hd
    show Calls _ _ _ _ (fun e w' => e = .returned (.tuple #[.agg #[.int .i64 q, .int .i64 d], .bool true]) ∧ Ext w w')
    go_enter Tryz.func23, Tryz.ntmps23
    go_wp2_with fail
    generalize w.alloc (.cells #[.int .i64 0, .int .i64 0] 27) = W at *
    refine (C1.out _).mono ?_
    rintro e w1 ⟨rfl, x1⟩
    have xa := (Ext.refl w1).alloc (.cells #[.int .i64 q, .int .i64 d] 27)
    have X1 := Lib.hid (X0.out.trans (x1.trans xa))
    have T1 := Lib.hid (T0.out.ext (x1.trans xa))
    obtain ⟨u, v, k0, k1, f0, f1⟩ := T1.out.facts
    obtain ⟨d0, d1⟩ := cells_of (heap_alloc_new w1 (.cells #[.int .i64 q, .int .i64 d] 27))
    clear x1 xa
    go_wp2_with fail
    have HH := set2_heap T1.out (.int .i64 q) (.int .i64 d)
    have XX := X1.out.set2 (g := w.heap.size) (Nat.le_refl _) (.int .i64 q) (.int .i64 d)
    change bodyPost _ _ _ _ _ (N.set2 _ w.heap.size (.int .i64 q) (.int .i64 d))
    obtain ⟨hc0, hc1⟩ := cells_of HH
    generalize N.set2 _ w.heap.size (.int .i64 q) (.int .i64 d) = W3 at *
    exact bodyPost_ret (v := .tuple #[.agg #[.int .i64 q, .int .i64 d], .bool true]) (by simp [results, Tryz.results23, go_sem, hc0, hc1]) rfl ⟨rfl, XX⟩
  · rw [decide_eq_false hd] at C1
    rw [if_neg hd]
    clear hd
    show Calls _ _ _ _ (fun e w' => e = .returned (.tuple #[.agg #[.int .i64 0, .int .i64 0], .bool false]) ∧ Ext w w')
    go_enter Tryz.func23, Tryz.ntmps23
    go_wp2_with fail
    generalize w.alloc (.cells #[.int .i64 0, .int .i64 0] 27) = W at *
    refine (C1.out _).mono ?_
    rintro e w1 ⟨rfl, x1⟩
    have xa := (Ext.refl w1).alloc (.cells #[.int .i64 q, .int .i64 d] 27)
    have X1 := Lib.hid (X0.out.trans (x1.trans xa))
    have T1 := Lib.hid (T0.out.ext (x1.trans xa))
    obtain ⟨u, v, k0, k1, f0, f1⟩ := T1.out.facts
    clear x1 xa
    go_wp2_with fail
    have HH := set2_heap T1.out (.int .i64 0) (.int .i64 0)
    have XX := X1.out.set2 (g := w.heap.size) (Nat.le_refl _) (.int .i64 0) (.int .i64 0)
    change bodyPost _ _ _ _ _ (N.set2 _ w.heap.size (.int .i64 0) (.int .i64 0))
    obtain ⟨hc0, hc1⟩ := cells_of HH
    generalize N.set2 _ w.heap.size (.int .i64 0) (.int .i64 0) = W3 at *
    exact bodyPost_ret (v := .tuple #[.agg #[.int .i64 0, .int .i64 0], .bool false]) (by simp [results, Tryz.results23, go_sem, hc0, hc1]) rfl ⟨rfl, XX⟩
end Go.Proofs.YtgnepbogadfinaaGreatDoor.N
namespace Go.Proofs.YtgnepbogadfinaaGreatDoor.N
open Go.RowKit
theorem box3_facts (w : World) (c1 c2 c3 : Obj) :
    Ext w (((w.alloc c1).alloc c2).alloc c3) ∧ (((w.alloc c1).alloc c2).alloc c3).heap[w.heap.size]? = some c1 ∧ (((w.alloc c1).alloc c2).alloc c3).heap[w.heap.size + 1]? = some c2 ∧ (((w.alloc c1).alloc c2).alloc c3).heap[w.heap.size + 1 + 1]? = some c3 := by
  have h0 := (((Ext.refl (w.alloc c1)).alloc c2).alloc c3).at (heap_alloc_new w c1)
  have h1 := ((Ext.refl ((w.alloc c1).alloc c2)).alloc c3).at (heap_alloc_new (w.alloc c1) c2)
  have h2 := heap_alloc_new ((w.alloc c1).alloc c2) c3
  rw [show (w.alloc c1).heap.size = w.heap.size + 1 by simp] at h1
  rw [show ((w.alloc c1).alloc c2).heap.size = w.heap.size + 1 + 1 by simp] at h2
  exact ⟨(((Ext.refl w).alloc _).alloc _).alloc _, h0, h1, h2⟩
set_option maxHeartbeats 3200000 in
set_option maxRecDepth 100000 in
theorem implVal_noPair (s t : ByteArray) (n d : Int) (h : ¬ Good s t) (w : World) :
    Calls Tryz.prog 6 #[.agg #[.string s, .string t], .agg #[.int .i64 n, .int .i64 d]] w fun e w' => e = .returned (FrV none) ∧ Ext w w' := by
  obtain ⟨X0, b0, b1, b2⟩ := box3_facts w (.cells #[.string s, .string t] 25) (.cells #[.int .i64 n, .int .i64 d] 27) (.cells #[.int .i64 0, .int .i64 0] 27)
  have X0 := Lib.hid X0
  have T0 : Hid (Two _ (w.heap.size + 1 + 1) 27) := ⟨_, _, b2⟩
  have C1 := Lib.hid (pairOf_no s t h)
  obtain ⟨c0, c1⟩ := cells_of b0
  clear h b1 b2
  show Calls _ _ _ _ (fun e w' => e = .returned (.tuple #[.agg #[.int .i64 0, .int .i64 0], .bool false]) ∧ Ext w w')
  go_enter Tryz.func6, Tryz.ntmps6
  go_wp2_with fail
  generalize ((w.alloc (.cells #[.string s, .string t] 25)).alloc (.cells #[.int .i64 n, .int .i64 d] 27)).alloc (.cells #[.int .i64 0, .int .i64 0] 27) = W at *
  refine (C1.out _).mono ?_
  rintro e w1 ⟨pa, pb, rfl, x1⟩
  have xa := x1.alloc (.cells #[.pointer pa, .pointer pb] 53)
  have X1 := Lib.hid (X0.out.trans xa)
  have T1 := Lib.hid (T0.out.ext xa)
  obtain ⟨u, v, k0, k1, f0, f1⟩ := T1.out.facts
  clear x1 xa
  go_wp2_with fail
  have HH := set2_heap T1.out (.int .i64 0) (.int .i64 0)
  have XX := X1.out.set2 (g := w.heap.size + 1 + 1) (by omega) (.int .i64 0) (.int .i64 0)
  change bodyPost _ _ _ _ _ (N.set2 _ (w.heap.size + 1 + 1) (.int .i64 0) (.int .i64 0))
  obtain ⟨hc0, hc1⟩ := cells_of HH
  generalize N.set2 _ (w.heap.size + 1 + 1) (.int .i64 0) (.int .i64 0) = W3 at *
  exact bodyPost_ret (v := .tuple #[.agg #[.int .i64 0, .int .i64 0], .bool false]) (by simp [results, Tryz.results6, go_sem, hc0, hc1]) rfl ⟨rfl, XX⟩
set_option maxHeartbeats 3200000 in
set_option maxRecDepth 100000 in
theorem implVal_noFrac (A B : Tr) (hc : A.carets = B.carets) (hB : B.carets ≤ 8) (n d : Int) (h : goodB n d = false) (w : World) :
    Calls Tryz.prog 6 #[.agg #[.string (tx A), .string (tx B)], .agg #[.int .i64 n, .int .i64 d]] w fun e w' => e = .returned (FrV none) ∧ Ext w w' := by
  have C1 := Lib.hid (fun W => pairOf_yes A B hc hB W)
  generalize tx A = s at *
  generalize tx B = t at *
  obtain ⟨X0, b0, b1, b2⟩ := box3_facts w (.cells #[.string s, .string t] 25) (.cells #[.int .i64 n, .int .i64 d] 27) (.cells #[.int .i64 0, .int .i64 0] 27)
  have X0 := Lib.hid X0
  have T0 : Hid (Two _ (w.heap.size + 1 + 1) 27) := ⟨_, _, b2⟩
  have B1 := Lib.hid b1
  have C2 := Lib.hid (fun W => isFraction_calls n d W)
  rw [h] at C2
  obtain ⟨c0, c1⟩ := cells_of b0
  clear h b1 b2
  show Calls _ _ _ _ (fun e w' => e = .returned (.tuple #[.agg #[.int .i64 0, .int .i64 0], .bool false]) ∧ Ext w w')
  go_enter Tryz.func6, Tryz.ntmps6
  go_wp2_with fail
  generalize ((w.alloc (.cells #[.string s, .string t] 25)).alloc (.cells #[.int .i64 n, .int .i64 d] 27)).alloc (.cells #[.int .i64 0, .int .i64 0] 27) = W at *
  refine (C1.out _).mono ?_
  rintro e w1 ⟨pa, pb, rfl, rA, rB, x1⟩
  have xa := x1.alloc (.cells #[.pointer pa, .pointer pb] 53)
  have X1 := Lib.hid (X0.out.trans xa)
  have T1 := Lib.hid (T0.out.ext xa)
  obtain ⟨c2, c3⟩ := cells_of (xa.at B1.out)
  clear x1 xa rA rB
  go_wp2_with fail
  refine (C2.out _).mono ?_
  rintro e w2 ⟨rfl, x2⟩
  have X2 := Lib.hid (X1.out.trans x2)
  have T2 := Lib.hid (T1.out.ext x2)
  obtain ⟨u, v, k0, k1, f0, f1⟩ := T2.out.facts
  clear x2
  go_wp2_with fail
  have HH := set2_heap T2.out (.int .i64 0) (.int .i64 0)
  have XX := X2.out.set2 (g := w.heap.size + 1 + 1) (by omega) (.int .i64 0) (.int .i64 0)
  change bodyPost _ _ _ _ _ (N.set2 _ (w.heap.size + 1 + 1) (.int .i64 0) (.int .i64 0))
  obtain ⟨hc0, hc1⟩ := cells_of HH
  generalize N.set2 _ (w.heap.size + 1 + 1) (.int .i64 0) (.int .i64 0) = W3 at *
  exact bodyPost_ret (v := .tuple #[.agg #[.int .i64 0, .int .i64 0], .bool false]) (by simp [results, Tryz.results6, go_sem, hc0, hc1]) rfl ⟨rfl, XX⟩
theorem FrV_shape (o : Option (Nat × Nat)) : ∃ (x y : Int) (b : Bool), FrV o = .tuple #[.agg #[.int .i64 x, .int .i64 y], .bool b] := by
  cases o with
  | none => exact ⟨_, _, _, rfl⟩
  | some x => exact ⟨_, _, _, rfl⟩
set_option maxHeartbeats 3200000 in
set_option maxRecDepth 100000 in
theorem implVal_yes (A B : Tr) (hc : A.carets = B.carets) (hB : B.carets ≤ 8) (m k : Nat) (hk : k ≤ 10) (hm : m ≤ 2 ^ k) (h : goodB m ((2 ^ k : Nat) : Int) = true) (w : World) :
    Calls Tryz.prog 6 #[.agg #[.string (tx A), .string (tx B)], .agg #[.int .i64 m, .int .i64 ((2 ^ k : Nat) : Int)]] w fun e w' => e = .returned (FrV (frF (vaF A B (m * part k)))) ∧ Ext w w' := by
  have hle : m * part k ≤ 1099511627776 := by rw [← part_mul (show k ≤ 40 by omega)]; exact Nat.mul_le_mul_right _ hm
  have C1 := Lib.hid (fun W => pairOf_yes A B hc hB W)
  have C2 := Lib.hid (fun W => isFraction_calls m ((2 ^ k : Nat) : Int) W)
  rw [h] at C2
  have C3 := Lib.hid (fun W => place_calls m (2 ^ k) (part k) (part_mul (by omega)) hm (Nat.two_pow_pos k) W)
  have C4 := Lib.hid (fun pa pb W => carried_calls A B hc (by omega) (m * part k) hle pa pb W)
  have C5 := Lib.hid (fun (hv : vaF A B (m * part k) ≤ 1099511627776) W => toldAt_calls (vaF A B (m * part k)) hv W)
  obtain ⟨x, y, b, hF⟩ := FrV_shape (frF (vaF A B (m * part k)))
  rw [hF] at C5 ⊢
  generalize vaF A B (m * part k) = V at *
  generalize m * part k = pl at *
  generalize 2 ^ k = D at *
  generalize tx A = s at *
  generalize tx B = t at *
  clear hF hle h hc hB hk hm
  obtain ⟨X0, b0, b1, b2⟩ := box3_facts w (.cells #[.string s, .string t] 25) (.cells #[.int .i64 (m : Int), .int .i64 (D : Int)] 27) (.cells #[.int .i64 0, .int .i64 0] 27)
  have X0 := Lib.hid X0
  have T0 : Hid (Two _ (w.heap.size + 1 + 1) 27) := ⟨_, _, b2⟩
  have B1 := Lib.hid b1
  obtain ⟨c0, c1⟩ := cells_of b0
  clear b1 b2
  go_enter Tryz.func6, Tryz.ntmps6
  go_wp2_with fail
  generalize ((w.alloc (.cells #[.string s, .string t] 25)).alloc (.cells #[.int .i64 (m : Int), .int .i64 (D : Int)] 27)).alloc (.cells #[.int .i64 0, .int .i64 0] 27) = W at *
  refine (C1.out _).mono ?_
  rintro e w1 ⟨pa, pb, rfl, rA, rB, x1⟩
  have xa := x1.alloc (.cells #[.pointer pa, .pointer pb] 53)
  have X1 := Lib.hid (X0.out.trans xa)
  have T1 := Lib.hid (T0.out.ext xa)
  have B1 := Lib.hid (xa.at B1.out)
  have B6 : Hid ((w1.alloc (.cells #[.pointer pa, .pointer pb] 53)).heap[w1.heap.size]? = some (.cells #[.pointer pa, .pointer pb] 53)) := heap_alloc_new w1 _
  obtain ⟨c2, c3⟩ := cells_of B1.out
  have RA := Lib.hid (rA.ext ((Ext.refl w1).alloc (.cells #[.pointer pa, .pointer pb] 53)))
  have RB := Lib.hid (rB.ext ((Ext.refl w1).alloc (.cells #[.pointer pa, .pointer pb] 53)))
  have S1 := Lib.hid (X0.out.trans x1).size
  have N6 : Hid (w.heap.size + 1 + 1 ≠ w1.heap.size) := by
    obtain ⟨u, v, e⟩ := (T0.out.ext x1).at_
    have := (Array.getElem?_eq_some_iff.1 e).1
    show _ ≠ _; omega
  clear x1 xa rA rB c0 c1
  go_wp2_with fail
  generalize w1.alloc (.cells #[.pointer pa, .pointer pb] 53) = W1 at *
  refine (C2.out _).mono ?_
  rintro e w2 ⟨rfl, x2⟩
  have X2 := Lib.hid (X1.out.trans x2)
  have T2 := T1.out.ext x2
  have RA := Lib.hid (RA.out.ext x2)
  have RB := Lib.hid (RB.out.ext x2)
  obtain ⟨c2, c3⟩ := cells_of (x2.at B1.out)
  obtain ⟨c4, c5⟩ := cells_of (x2.at B6.out)
  have SX := Lib.hid (And.intro c4 (And.intro c5 (And.intro c2 (And.intro c3 X2.out))))
  have n2 : Hid (w.heap.size + 1 ≠ w.heap.size + 1 + 1) := by show _ ≠ _; omega
  have n3 : Hid (w.heap.size ≤ w.heap.size + 1 + 1) := by show _ ≤ _; omega
  clear x2
  go_wp2_with fail
  go_region_held3 (fun w' => w'.cell? ⟨w1.heap.size, 0, none⟩ = some (.pointer pa) ∧ w'.cell? ⟨w1.heap.size, 1, none⟩ = some (.pointer pb) ∧ w'.cell? ⟨w.heap.size + 1, 0, none⟩ = some (.int .i64 (m : Int)) ∧ w'.cell? ⟨w.heap.size + 1, 1, none⟩ = some (.int .i64 (D : Int)) ∧ Ext w w')
    (first | with_reducible exact quad_ext SX.out (Ext.refl _).drew | with_reducible exact quad_ext SX.out x5 | with_reducible exact quad_ext SX.out x4 | with_reducible exact quad_ext SX.out x3 | with_reducible exact quad_far _ _ (quad_ext SX.out x5) N6.out.symm n2.out n3.out | fail)
    (first
      | (go_at_call 25; refine (C3.out _).mono ?_; rintro e w3 ⟨rfl, hx3⟩; have x3 := (Ext.refl w2).drew.trans hx3)
      | (go_at_call 24; refine (C4.out pa pb _ (RA.out.ext x3) (RB.out.ext x3)).mono ?_; rintro e w4 ⟨rfl, hv, hx4⟩; have x4 := x3.trans hx4)
      | (go_at_call 23; refine (C5.out hv _).mono ?_; rintro e w5 ⟨rfl, hx5⟩; have x5 := x4.trans hx5; obtain ⟨u, v, k0, k1, f0, f1⟩ := (T2.ext x5).facts)
      | fail)
  have T3 := T2.ext x5
  have HH := set2_heap T3 (.int .i64 x) (.int .i64 y)
  have XX := (X2.out.trans x5).set2 (g := w.heap.size + 1 + 1) (by omega) (.int .i64 x) (.int .i64 y)
  change Exit.then _ _ _ _ (N.set2 _ (w.heap.size + 1 + 1) (.int .i64 x) (.int .i64 y))
  obtain ⟨hc0, hc1⟩ := cells_of HH
  generalize N.set2 _ (w.heap.size + 1 + 1) (.int .i64 x) (.int .i64 y) = W3 at *
  go_wp2_with fail
  exact bodyPost_ret (v := .tuple #[.agg #[.int .i64 x, .int .i64 y], .bool b]) (by simp [results, Tryz.results6, go_sem, hc0, hc1]) rfl ⟨rfl, XX⟩
end Go.Proofs.YtgnepbogadfinaaGreatDoor.N
