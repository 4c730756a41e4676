import Derived.Test.YtfkjjmmoipcddaaBa
import Derived.Test.YtfkjjmmoipcddaaPu
import Derived.Test.YtfkjjmmoipcddaaSl
import Derived.Test.YtfkjjmmoipcddaaProg
import Derived.Test.YtfkjjmmoipcddaaTn
import Derived.Test.YtfkjjmmoipcddaaTs
import Derived.Test.YtfkjjmmoipcddaaPh
import Derived.Test.YtfkjjmmoipcddaaWl
import Derived.Test.YtfkjjmmoipcddaaT3
import Derived.Test.YtfkjjmmoipcddaaTp
import Derived.Test.YtfkjjmmoipcddaaTr
import Derived.Test.YtfkjjmmoipcddaaTu
import Derived.Test.YtfkjjmmoipcddaaTj
import Derived.Test.YtfkjjmmoipcddaaRh
import Derived.Test.YtfkjjmmoipcddaaFa
import Derived.Test.YtfkjjmmoipcddaaFb
import Derived.Test.YtfkjjmmoipcddaaFc
import Derived.Test.YtfkjjmmoipcddaaPf
import Derived.Deep.LoopGhost
import Derived.Deep.RegionHeld3
import Derived.Deep.QuietTactic
/- Values of pairs at fractions, the program's. -/
namespace Go.Proofs.Ytfkjjmmoipcddaa.N
open Go.RowKit
set_option linter.unusedVariables false
set_option linter.unusedSimpArgs false

theorem carr_facts (A B : Tr) (hc : A.carets = B.carets) (hB : B.carets ≤ 30) (p : Nat) (hp : p ≤ 1099511627776) : ∃ a b, (addrs A [])[fi p (addrs A [])]? = some a ∧ (addrs B [])[fi p (addrs A [])]? = some b ∧ a.length ≤ 40 ∧ b.length ≤ 40 ∧ plA a ≤ p ∧ p ≤ plA a + part a.length ∧ vaF A B p = vaL a b p := by
  have h1 := addrs_chn A [] (by have := A.depth_le; simp; omega)
  have e0 : plA ([] : List UInt8) = 0 := rfl
  rw [e0] at h1
  have e1 : (0 : Nat) + part ([] : List UInt8).length = 1099511627776 := by decide
  rw [e1] at h1
  have hn : addrs A [] ≠ [] := fun h => by have := addrs_length A []; rw [h] at this; simp at this
  obtain ⟨a, ha, h2, h3⟩ := fi_in p _ _ _ h1 hn (Nat.zero_le _) hp
  have hk : fi p (addrs A []) < (addrs B []).length := by
    have := (List.getElem?_eq_some_iff.1 ha).1
    rw [addrs_length] at this ⊢; omega
  have hb := List.getElem?_eq_getElem hk
  refine ⟨a, _, ha, hb, ?_, ?_, h2, h3, ?_⟩
  · have := addrs_depth A [] a (List.mem_of_getElem? ha); have := A.depth_le; simp at *; omega
  · have := addrs_depth B [] _ (List.getElem_mem hk); have := B.depth_le; simp at *; omega
  · unfold vaF
    rw [List.getD_eq_getElem?_getD, ha, List.getD_eq_getElem?_getD, hb]; rfl
set_option maxHeartbeats 1600000 in
theorem pieceValue (a b : List UInt8) (p : Nat) (hal : a.length ≤ 40) (hbl : b.length ≤ 40) (hp : p ≤ 1099511627776) (h1 : plA a ≤ p) (h2 : p ≤ plA a + part a.length) (W : World) :
    Calls Try.prog 151 #[.agg #[.int .i64 (plA a : Nat), .int .i64 (plA b : Nat), .int .i64 (a.length : Nat), .int .i64 (b.length : Nat)], .int .i64 p] W fun e w' => e = .returned (.int .i64 (vaL a b p : Nat)) ∧ Ext W w' := by
  obtain ⟨v1, v2⟩ := vaL_le a b p hal hbl h1 h2
  have HA0 : plA a + part a.length ≤ 1099511627776 := plI_le a a.length hal
  have HB0 : plA b + part b.length ≤ 1099511627776 := plI_le b b.length hbl
  unfold vaL
  generalize plA a = x at *
  generalize plA b = y at *
  by_cases hl : b.length ≤ a.length
  · rw [if_pos hl]
    have hx := v2 hl
    have e1 : (((p - x) * 2 ^ (a.length - b.length) : Nat) : Int) = ((p : Int) - (x : Nat)) * 2 ^ (a.length - b.length) := by
      rw [Int.natCast_mul, Int.natCast_pow, Int.natCast_sub h1]; rfl
    have e2 : ((p : Int) - (x : Nat)) * 2 ^ (a.length - b.length) ≤ 1099511627776 := by rw [← e1]; omega
    refine (value_up (x : Nat) (y : Nat) p a.length b.length hl hal (by omega) (by omega) e2 W).mono ?_
    rintro e w' ⟨rfl, x⟩
    exact ⟨by rw [Int.natCast_add, e1], x⟩
  · rw [if_neg hl]
    have e1 : (((p - x) / 2 ^ (b.length - a.length) : Nat) : Int) = ((p : Int) - (x : Nat)) / 2 ^ (b.length - a.length) := by
      rw [Int.natCast_ediv, Int.natCast_pow, Int.natCast_sub h1]; rfl
    refine (value_down (x : Nat) (y : Nat) p a.length b.length (by omega) hbl (by omega) (by omega) W).mono ?_
    rintro e w' ⟨rfl, x⟩
    exact ⟨by rw [Int.natCast_add, e1], x⟩
set_option maxHeartbeats 3200000 in
set_option maxRecDepth 100000 in
theorem carried_calls (A B : Tr) (hc : A.carets = B.carets) (hB : B.carets ≤ 30) (p : Nat) (hp : p ≤ 1099511627776) (pa pb : Option Addr) (w : World) (ra : Rep w A pa) (rb : Rep w B pb) :
    Calls Try.prog 104 #[.agg #[.pointer pa, .pointer pb], .int .i64 p] w fun e w' => e = .returned (.int .i64 (vaF A B p : Nat)) ∧ vaF A B p ≤ 1099511627776 ∧ Ext w w' := by
  have X0 := Lib.hid ((Ext.refl w).alloc (.cells #[.pointer pa, .pointer pb] 78))
  obtain ⟨c0, c1⟩ := cells_of (heap_alloc_new w (.cells #[.pointer pa, .pointer pb] 78))
  have C1 := Lib.hid (fun W (h : Ext w W) => pieces_calls A B hc hB pa pb W (ra.ext h) (rb.ext h))
  have LA := addrs_length A []
  have LB := addrs_length B []
  have C2 := Lib.hid (fun base v W => pieceAt_calls (addrs A []) (addrs B []) (by omega) (by omega) (by omega) (fun x hx => by have := addrs_depth A [] x hx; have := A.depth_le; simp at *; omega) p base hp v W)
  obtain ⟨a, b, ha, hb, hal, hbl, h1, h2, hv⟩ := carr_facts A B hc hB p hp
  obtain ⟨v1, v2⟩ := vaL_le a b p hal hbl h1 h2
  rw [pcAt_fi, ha, hb, LA] at C2
  have E : Hid (vaF A B p = vaL a b p) := hv
  have V1 := Lib.hid v1
  have C3 := Lib.hid (fun W => pieceValue a b p hal hbl hp h1 h2 W)
  rw [E.out]
  generalize vaL a b p = z at *
  change Hid (∀ base v W, _ → Calls _ _ _ W fun e w' => ∃ a' b', _ ∧ _ ∧ e = .returned (.agg (pcV a' b').toArray) ∧ Ext W w') at C2
  clear hc hB ra rb LA LB hp h1 h2 hv v1 v2 hal hbl ha hb E
  have PV : Hid ((pcV a b).toArray = #[.int .i64 (plA a : Nat), .int .i64 (plA b : Nat), .int .i64 (a.length : Nat), .int .i64 (b.length : Nat)]) := rfl
  generalize plA a = na at *
  generalize plA b = nb at *
  generalize addrs A [] = la at *
  generalize addrs B [] = lb at *
  go_enter Try.func104, Try.ntmps104
  go_wp2_with fail
  generalize w.alloc (.cells #[.pointer pa, .pointer pb] 78) = W at *
  refine (C1.out _ X0.out).mono ?_
  rintro e w1 ⟨v1, rfl, o1, x1⟩
  have X1 := Lib.hid (X0.out.trans x1)
  have O1 := Lib.hid o1
  clear o1 x1
  go_wp2_with fail
  refine (C2.out _ _ _ O1.out).mono ?_
  rintro e w2 ⟨a', b', ha', hb', rfl, x2⟩
  cases ha'; cases hb'
  rw [PV.out]
  have X2 := Lib.hid (X1.out.trans x2)
  clear x2
  go_wp2_with fail
  refine (C3.out _).mono ?_
  rintro e w3 ⟨rfl, x3⟩
  have X3 := Lib.hid (X2.out.trans x3)
  clear x3
  go_wp2_with fail
  go_ret
  exact ⟨rfl, V1.out, X3.out⟩

/-- What is told of a fraction that may be none. -/
def FrV : Option (Nat × Nat) → Value
  | none => .tuple #[.agg #[.int .i64 0, .int .i64 0], .bool false]
  | some x => .tuple #[.agg #[.int .i64 x.1, .int .i64 x.2], .bool true]
set_option maxHeartbeats 3200000 in
set_option maxRecDepth 100000 in
theorem toldAt_calls (p : Nat) (hp : p ≤ 1099511627776) (w : World) :
    Calls Try.prog 103 #[.int .i64 p] w fun e w' => e = .returned (FrV (frF p)) ∧ Ext w w' := by
  have X0 := Lib.hid ((Ext.refl w).alloc (.cells #[.int .i64 0, .int .i64 0] 61))
  have T0 := Lib.hid (Two.new w (.int .i64 0) (.int .i64 0) 61 rfl)
  have C1 := Lib.hid (fun W => fractionAt_calls p hp W)
  unfold frF
  generalize halve 40 p 1099511627776 = x at *
  obtain ⟨q, d⟩ := x
  simp only at C1 ⊢
  clear hp
  by_cases hd : d ≤ 1024
  · rw [decide_eq_true hd] at C1
    rw [if_pos hd]
    clear hd
    show Calls _ _ _ _ (fun e w' => e = .returned (.tuple #[.agg #[.int .i64 q, .int .i64 d], .bool true]) ∧ Ext w w')
    go_enter Try.func103, Try.ntmps103
    go_wp2_with fail
    generalize w.alloc (.cells #[.int .i64 0, .int .i64 0] 61) = W at *
    refine (C1.out _).mono ?_
    rintro e w1 ⟨rfl, x1⟩
    have xa := (Ext.refl w1).alloc (.cells #[.int .i64 q, .int .i64 d] 61)
    have X1 := Lib.hid (X0.out.trans (x1.trans xa))
    have T1 := Lib.hid (T0.out.ext (x1.trans xa))
    obtain ⟨u, v, k0, k1, f0, f1⟩ := T1.out.facts
    obtain ⟨d0, d1⟩ := cells_of (heap_alloc_new w1 (.cells #[.int .i64 q, .int .i64 d] 61))
    clear x1 xa
    go_wp2_with fail
    have HH := set2_heap T1.out (.int .i64 q) (.int .i64 d)
    have XX := X1.out.set2 (g := w.heap.size) (Nat.le_refl _) (.int .i64 q) (.int .i64 d)
    change bodyPost _ _ _ _ _ (N.set2 _ w.heap.size (.int .i64 q) (.int .i64 d))
    obtain ⟨hc0, hc1⟩ := cells_of HH
    generalize N.set2 _ w.heap.size (.int .i64 q) (.int .i64 d) = W3 at *
    exact bodyPost_ret (v := .tuple #[.agg #[.int .i64 q, .int .i64 d], .bool true]) (by simp [results, Try.results103, go_sem, hc0, hc1]) rfl ⟨rfl, XX⟩
  · rw [decide_eq_false hd] at C1
    rw [if_neg hd]
    clear hd
    show Calls _ _ _ _ (fun e w' => e = .returned (.tuple #[.agg #[.int .i64 0, .int .i64 0], .bool false]) ∧ Ext w w')
    go_enter Try.func103, Try.ntmps103
    go_wp2_with fail
    generalize w.alloc (.cells #[.int .i64 0, .int .i64 0] 61) = W at *
    refine (C1.out _).mono ?_
    rintro e w1 ⟨rfl, x1⟩
    have xa := (Ext.refl w1).alloc (.cells #[.int .i64 q, .int .i64 d] 61)
    have X1 := Lib.hid (X0.out.trans (x1.trans xa))
    have T1 := Lib.hid (T0.out.ext (x1.trans xa))
    obtain ⟨u, v, k0, k1, f0, f1⟩ := T1.out.facts
    clear x1 xa
    go_wp2_with fail
    have HH := set2_heap T1.out (.int .i64 0) (.int .i64 0)
    have XX := X1.out.set2 (g := w.heap.size) (Nat.le_refl _) (.int .i64 0) (.int .i64 0)
    change bodyPost _ _ _ _ _ (N.set2 _ w.heap.size (.int .i64 0) (.int .i64 0))
    obtain ⟨hc0, hc1⟩ := cells_of HH
    generalize N.set2 _ w.heap.size (.int .i64 0) (.int .i64 0) = W3 at *
    exact bodyPost_ret (v := .tuple #[.agg #[.int .i64 0, .int .i64 0], .bool false]) (by simp [results, Try.results103, go_sem, hc0, hc1]) rfl ⟨rfl, XX⟩
end Go.Proofs.Ytfkjjmmoipcddaa.N
