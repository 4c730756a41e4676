import Derived.Test.YtpmmajfdcicjiaaGreatG1RFnHalvesAndShifts
import Derived.Test.YtpmmajfdcicjiaaGreatG2RFnHalvesAndShifts
import Derived.Test.YtpmmajfdcicjiaaGreatProg
import Derived.Test.YtpmmajfdcicjiaaGreatG5RFnHalvesAndShifts
import Derived.Test.YtpmmajfdcicjiaaGreatG3RFnHalvesAndShifts
import Derived.Test.YtpmmajfdcicjiaaGreatG12RFnHalvesAndShifts
import Derived.Test.YtpmmajfdcicjiaaGreatG16RFnHalvesAndShifts
import Derived.Test.YtpmmajfdcicjiaaGreatG7RFnHalvesAndShifts
import Derived.Test.YtpmmajfdcicjiaaGreatG17RFnHalvesAndShifts
import Derived.Test.YtpmmajfdcicjiaaGreatG19RFnHalvesAndShifts
import Derived.Test.YtpmmajfdcicjiaaGreatG27RFnHalvesAndShifts
import Derived.Test.YtpmmajfdcicjiaaGreatG28RFnHalvesAndShifts
import Derived.Test.YtpmmajfdcicjiaaGreatG29RFnHalvesAndShifts
import Derived.Deep.LoopGhost
import Derived.Deep.RegionHeld3
import Derived.Deep.QuietTactic
import Derived.BigQuiet
import Derived.BigRegion
/- ValueOf, the program's. -/
namespace Go.Proofs.YtpmmajfdcicjiaaGreat.N
open Go.RowKit
set_option linter.unusedVariables false
set_option linter.unusedSimpArgs false

theorem box3_facts (w : World) (c1 c2 c3 : Obj) :
    Ext w (((w.alloc c1).alloc c2).alloc c3) ∧ (((w.alloc c1).alloc c2).alloc c3).heap[w.heap.size]? = some c1 ∧ (((w.alloc c1).alloc c2).alloc c3).heap[w.heap.size + 1]? = some c2 ∧ (((w.alloc c1).alloc c2).alloc c3).heap[w.heap.size + 1 + 1]? = some c3 := by
  have h0 := (((Ext.refl (w.alloc c1)).alloc c2).alloc c3).at (heap_alloc_new w c1)
  have h1 := ((Ext.refl ((w.alloc c1).alloc c2)).alloc c3).at (heap_alloc_new (w.alloc c1) c2)
  have h2 := heap_alloc_new ((w.alloc c1).alloc c2) c3
  rw [show (w.alloc c1).heap.size = w.heap.size + 1 by simp] at h1
  rw [show ((w.alloc c1).alloc c2).heap.size = w.heap.size + 1 + 1 by simp] at h2
  exact ⟨(((Ext.refl w).alloc _).alloc _).alloc _, h0, h1, h2⟩

set_option maxHeartbeats 3200000 in
set_option maxRecDepth 100000 in
theorem implVal_noPair (s t : ByteArray) (n d : Int) (h : ¬ Good s t) (w : World) :
    Calls Tryz.prog 15 #[.agg #[.string s, .string t], .agg #[.int .i64 n, .int .i64 d]] w fun e w' => e = .returned (FrV none) ∧ Ext w w' := by
  obtain ⟨X0, b0, b1, b2⟩ := box3_facts w (.cells #[.string s, .string t] 25) (.cells #[.int .i64 n, .int .i64 d] 36) (.cells #[.int .i64 0, .int .i64 0] 36)
  have X0 := Lib.hid X0
  have T0 : Hid (Two _ (w.heap.size + 1 + 1) 36) := ⟨_, _, b2⟩
  have C1 := Lib.hid (pairOf_no s t h)
  obtain ⟨c0, c1⟩ := cells_of b0
  clear h b1 b2
  show Calls _ _ _ _ (fun e w' => e = .returned (.tuple #[.agg #[.int .i64 0, .int .i64 0], .bool false]) ∧ Ext w w')
  go_enter Tryz.func15, Tryz.ntmps15
  go_wp2_with fail
  generalize ((w.alloc (.cells #[.string s, .string t] 25)).alloc (.cells #[.int .i64 n, .int .i64 d] 36)).alloc (.cells #[.int .i64 0, .int .i64 0] 36) = W at *
  refine (C1.out _).mono ?_
  rintro e w1 ⟨pa, pb, rfl, x1⟩
  have xa := x1.alloc (.cells #[.pointer pa, .pointer pb] 67)
  have X1 := Lib.hid (X0.out.trans xa)
  have T1 := Lib.hid (T0.out.ext xa)
  obtain ⟨u, v, k0, k1, f0, f1⟩ := T1.out.facts
  clear x1 xa
  go_wp2_with fail
  have HH := set2_heap T1.out (.int .i64 0) (.int .i64 0)
  have XX := X1.out.set2 (g := w.heap.size + 1 + 1) (by omega) (.int .i64 0) (.int .i64 0)
  change bodyPost _ _ _ _ _ (N.set2 _ (w.heap.size + 1 + 1) (.int .i64 0) (.int .i64 0))
  obtain ⟨hc0, hc1⟩ := cells_of HH
  generalize N.set2 _ (w.heap.size + 1 + 1) (.int .i64 0) (.int .i64 0) = W3 at *
  exact bodyPost_ret (v := .tuple #[.agg #[.int .i64 0, .int .i64 0], .bool false]) (by simp [results, Tryz.results15, go_sem, hc0, hc1]) rfl ⟨rfl, XX⟩
set_option maxHeartbeats 3200000 in
set_option maxRecDepth 100000 in
theorem implVal_noFrac (A B : Tr) (hc : A.carets = B.carets) (hB : B.carets ≤ 8) (n d : Int) (h : goodB n d = false) (w : World) :
    Calls Tryz.prog 15 #[.agg #[.string (tx A), .string (tx B)], .agg #[.int .i64 n, .int .i64 d]] w fun e w' => e = .returned (FrV none) ∧ Ext w w' := by
  have C1 := Lib.hid (fun W => pairOf_yes A B hc hB W)
  generalize tx A = s at *
  generalize tx B = t at *
  obtain ⟨X0, b0, b1, b2⟩ := box3_facts w (.cells #[.string s, .string t] 25) (.cells #[.int .i64 n, .int .i64 d] 36) (.cells #[.int .i64 0, .int .i64 0] 36)
  have X0 := Lib.hid X0
  have T0 : Hid (Two _ (w.heap.size + 1 + 1) 36) := ⟨_, _, b2⟩
  have B1 := Lib.hid b1
  have C2 := Lib.hid (fun W => isFraction_calls n d W)
  rw [h] at C2
  obtain ⟨c0, c1⟩ := cells_of b0
  clear h b1 b2
  show Calls _ _ _ _ (fun e w' => e = .returned (.tuple #[.agg #[.int .i64 0, .int .i64 0], .bool false]) ∧ Ext w w')
  go_enter Tryz.func15, Tryz.ntmps15
  go_wp2_with fail
  generalize ((w.alloc (.cells #[.string s, .string t] 25)).alloc (.cells #[.int .i64 n, .int .i64 d] 36)).alloc (.cells #[.int .i64 0, .int .i64 0] 36) = W at *
  refine (C1.out _).mono ?_
  rintro e w1 ⟨pa, pb, rfl, rA, rB, x1⟩
  have xa := x1.alloc (.cells #[.pointer pa, .pointer pb] 67)
  have X1 := Lib.hid (X0.out.trans xa)
  have T1 := Lib.hid (T0.out.ext xa)
  obtain ⟨c2, c3⟩ := cells_of (xa.at B1.out)
  clear x1 xa rA rB
  go_wp2_with fail
  refine (C2.out _).mono ?_
  rintro e w2 ⟨rfl, x2⟩
  have X2 := Lib.hid (X1.out.trans x2)
  have T2 := Lib.hid (T1.out.ext x2)
  obtain ⟨u, v, k0, k1, f0, f1⟩ := T2.out.facts
  clear x2
  go_wp2_with fail
  have HH := set2_heap T2.out (.int .i64 0) (.int .i64 0)
  have XX := X2.out.set2 (g := w.heap.size + 1 + 1) (by omega) (.int .i64 0) (.int .i64 0)
  change bodyPost _ _ _ _ _ (N.set2 _ (w.heap.size + 1 + 1) (.int .i64 0) (.int .i64 0))
  obtain ⟨hc0, hc1⟩ := cells_of HH
  generalize N.set2 _ (w.heap.size + 1 + 1) (.int .i64 0) (.int .i64 0) = W3 at *
  exact bodyPost_ret (v := .tuple #[.agg #[.int .i64 0, .int .i64 0], .bool false]) (by simp [results, Tryz.results15, go_sem, hc0, hc1]) rfl ⟨rfl, XX⟩
/-- Some two ints and whether. -/
theorem FrV_shape (o : Option (Nat × Nat)) : ∃ (x y : Int) (b : Bool), FrV o = .tuple #[.agg #[.int .i64 x, .int .i64 y], .bool b] := by
  cases o with
  | none => exact ⟨_, _, _, rfl⟩
  | some x => exact ⟨_, _, _, rfl⟩
set_option maxHeartbeats 3200000 in
set_option maxRecDepth 100000 in
theorem implVal_yes (A B : Tr) (hc : A.carets = B.carets) (hB : B.carets ≤ 8) (m k : Nat) (hk : k ≤ 10) (hm : m ≤ 2 ^ k) (h : goodB m ((2 ^ k : Nat) : Int) = true) (w : World) :
    Calls Tryz.prog 15 #[.agg #[.string (tx A), .string (tx B)], .agg #[.int .i64 m, .int .i64 ((2 ^ k : Nat) : Int)]] w fun e w' => e = .returned (FrV (frF (vaF A B (m * part k)))) ∧ Ext w w' := by
  have hle : m * part k ≤ 1099511627776 := by rw [← part_mul (show k ≤ 40 by omega)]; exact Nat.mul_le_mul_right _ hm
  have C1 := Lib.hid (fun W => pairOf_yes A B hc hB W)
  have C2 := Lib.hid (fun W => isFraction_calls m ((2 ^ k : Nat) : Int) W)
  rw [h] at C2
  have C3 := Lib.hid (fun W => place_calls m (2 ^ k) (part k) (part_mul (by omega)) hm (Nat.two_pow_pos k) W)
  have C4 := Lib.hid (fun pa pb W => carried_calls A B hc (by omega) (m * part k) hle pa pb W)
  have C5 := Lib.hid (fun (hv : vaF A B (m * part k) ≤ 1099511627776) W => toldAt_calls (vaF A B (m * part k)) hv W)
  obtain ⟨x, y, b, hF⟩ := FrV_shape (frF (vaF A B (m * part k)))
  rw [hF] at C5 ⊢
  generalize vaF A B (m * part k) = V at *
  generalize m * part k = pl at *
  generalize 2 ^ k = D at *
  generalize tx A = s at *
  generalize tx B = t at *
  clear hF hle h hc hB hk hm
  obtain ⟨X0, b0, b1, b2⟩ := box3_facts w (.cells #[.string s, .string t] 25) (.cells #[.int .i64 (m : Int), .int .i64 (D : Int)] 36) (.cells #[.int .i64 0, .int .i64 0] 36)
  have X0 := Lib.hid X0
  have T0 : Hid (Two _ (w.heap.size + 1 + 1) 36) := ⟨_, _, b2⟩
  have B1 := Lib.hid b1
  obtain ⟨c0, c1⟩ := cells_of b0
  clear b1 b2
  go_enter Tryz.func15, Tryz.ntmps15
  go_wp2_with fail
  generalize ((w.alloc (.cells #[.string s, .string t] 25)).alloc (.cells #[.int .i64 (m : Int), .int .i64 (D : Int)] 36)).alloc (.cells #[.int .i64 0, .int .i64 0] 36) = W at *
  refine (C1.out _).mono ?_
  rintro e w1 ⟨pa, pb, rfl, rA, rB, x1⟩
  have xa := x1.alloc (.cells #[.pointer pa, .pointer pb] 67)
  have X1 := Lib.hid (X0.out.trans xa)
  have T1 := Lib.hid (T0.out.ext xa)
  have B1 := Lib.hid (xa.at B1.out)
  have B6 : Hid ((w1.alloc (.cells #[.pointer pa, .pointer pb] 67)).heap[w1.heap.size]? = some (.cells #[.pointer pa, .pointer pb] 67)) := heap_alloc_new w1 _
  obtain ⟨c2, c3⟩ := cells_of B1.out
  have RA := Lib.hid (rA.ext ((Ext.refl w1).alloc (.cells #[.pointer pa, .pointer pb] 67)))
  have RB := Lib.hid (rB.ext ((Ext.refl w1).alloc (.cells #[.pointer pa, .pointer pb] 67)))
  have S1 := Lib.hid (X0.out.trans x1).size
  have N6 : Hid (w.heap.size + 1 + 1 ≠ w1.heap.size) := by
    obtain ⟨u, v, e⟩ := (T0.out.ext x1).at_
    have := (Array.getElem?_eq_some_iff.1 e).1
    show _ ≠ _; omega
  clear x1 xa rA rB c0 c1
  go_wp2_with fail
  generalize w1.alloc (.cells #[.pointer pa, .pointer pb] 67) = W1 at *
  refine (C2.out _).mono ?_
  rintro e w2 ⟨rfl, x2⟩
  have X2 := Lib.hid (X1.out.trans x2)
  have T2 := T1.out.ext x2
  have RA := Lib.hid (RA.out.ext x2)
  have RB := Lib.hid (RB.out.ext x2)
  obtain ⟨c2, c3⟩ := cells_of (x2.at B1.out)
  obtain ⟨c4, c5⟩ := cells_of (x2.at B6.out)
  have SX := Lib.hid (And.intro c4 (And.intro c5 (And.intro c2 (And.intro c3 X2.out))))
  have n2 : Hid (w.heap.size + 1 ≠ w.heap.size + 1 + 1) := by show _ ≠ _; omega
  have n3 : Hid (w.heap.size ≤ w.heap.size + 1 + 1) := by show _ ≤ _; omega
  clear x2
  go_wp2_with fail
  go_region_held3 (fun w' => w'.cell? ⟨w1.heap.size, 0, none⟩ = some (.pointer pa) ∧ w'.cell? ⟨w1.heap.size, 1, none⟩ = some (.pointer pb) ∧ w'.cell? ⟨w.heap.size + 1, 0, none⟩ = some (.int .i64 (m : Int)) ∧ w'.cell? ⟨w.heap.size + 1, 1, none⟩ = some (.int .i64 (D : Int)) ∧ Ext w w')
    (first | with_reducible exact quad_ext SX.out (Ext.refl _).drew | with_reducible exact quad_ext SX.out x5 | with_reducible exact quad_ext SX.out x4 | with_reducible exact quad_ext SX.out x3 | with_reducible exact quad_far _ _ (quad_ext SX.out x5) N6.out.symm n2.out n3.out | fail)
    (first
      | (go_at_call 64; refine (C3.out _).mono ?_; rintro e w3 ⟨rfl, hx3⟩; have x3 := (Ext.refl w2).drew.trans hx3)
      | (go_at_call 63; refine (C4.out pa pb _ (RA.out.ext x3) (RB.out.ext x3)).mono ?_; rintro e w4 ⟨rfl, hv, hx4⟩; have x4 := x3.trans hx4)
      | (go_at_call 62; refine (C5.out hv _).mono ?_; rintro e w5 ⟨rfl, hx5⟩; have x5 := x4.trans hx5; obtain ⟨u, v, k0, k1, f0, f1⟩ := (T2.ext x5).facts)
      | fail)
  have T3 := T2.ext x5
  have HH := set2_heap T3 (.int .i64 x) (.int .i64 y)
  have XX := (X2.out.trans x5).set2 (g := w.heap.size + 1 + 1) (by omega) (.int .i64 x) (.int .i64 y)
  change Exit.then _ _ _ _ (N.set2 _ (w.heap.size + 1 + 1) (.int .i64 x) (.int .i64 y))
  obtain ⟨hc0, hc1⟩ := cells_of HH
  generalize N.set2 _ (w.heap.size + 1 + 1) (.int .i64 x) (.int .i64 y) = W3 at *
  go_wp2_with fail
  exact bodyPost_ret (v := .tuple #[.agg #[.int .i64 x, .int .i64 y], .bool b]) (by simp [results, Tryz.results15, go_sem, hc0, hc1]) rfl ⟨rfl, XX⟩
end Go.Proofs.YtpmmajfdcicjiaaGreat.N
/- Fractions: the reference's small functions. -/
namespace Go.Proofs.YtpmmajfdcicjiaaGreat.N
open Go.RowKit
set_option linter.unusedVariables false
set_option linter.unusedSimpArgs false

/-- An address as a number. -/
def nbI (a : List UInt8) : Nat → Nat
  | 0 => 0
  | i + 1 => 2 * nbI a i + if a[i]? = some 49 then 1 else 0
theorem nbI_lt (a : List UInt8) : ∀ i, nbI a i + 1 ≤ 2 ^ i
  | 0 => by simp [nbI]
  | i + 1 => by
    have := nbI_lt a i
    simp only [nbI, Nat.pow_succ]
    generalize 2 ^ i = z at *
    split <;> omega
theorem plI_nbI (a : List UInt8) : ∀ i, i ≤ 40 → plI a i = nbI a i * part i
  | 0, _ => by simp [plI, nbI]
  | i + 1, h => by
    have e := part_step (show i < 40 by omega)
    simp only [plI, nbI, plI_nbI a i (by omega), e, Nat.add_mul]
    have : nbI a i * (part (i + 1) * 2) = 2 * nbI a i * part (i + 1) := by rw [Nat.mul_comm (part (i + 1)) 2, ← Nat.mul_assoc, Nat.mul_comm (nbI a i) 2]
    rw [this]
    split <;> simp
/-- The fraction of an address in lowest terms. -/
def sN (a : List UInt8) : Nat := nbI a a.length / Nat.gcd (nbI a a.length) (2 ^ a.length)
def sD (a : List UInt8) : Nat := 2 ^ a.length / Nat.gcd (nbI a a.length) (2 ^ a.length)
def Bits (a : List UInt8) : Prop := ∀ c ∈ a, c = 48 ∨ c = 49
theorem addrs_bits : ∀ (T : Tr) (a x : List UInt8), Bits a → x ∈ addrs T a → Bits x
  | .leaf, a, x, ha, h => by simp [addrs] at h; subst h; exact ha
  | .node l r, a, x, ha, h => by
    simp only [addrs, List.mem_append] at h
    rcases h with h | h
    · exact addrs_bits l _ x (fun c hc => by rcases List.mem_append.1 hc with hc | hc; exact ha c hc; left; simpa using hc) h
    · exact addrs_bits r _ x (fun c hc => by rcases List.mem_append.1 hc with hc | hc; exact ha c hc; right; simpa using hc) h
end Go.Proofs.YtpmmajfdcicjiaaGreat.N
