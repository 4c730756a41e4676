import Derived.Test.YtpmmajfdcicjiaaGreatG1RFnHalvesAndShifts
import Derived.Test.YtpmmajfdcicjiaaGreatG12RFnHalvesAndShifts
import Derived.Test.YtpmmajfdcicjiaaGreatG27RFnHalvesAndShifts
import Derived.Test.YtpmmajfdcicjiaaGreatG28RFnHalvesAndShifts
import Derived.Test.YtpmmajfdcicjiaaGreatG2RFnHalvesAndShifts
import Derived.Test.YtpmmajfdcicjiaaGreatProg
import Derived.Test.YtpmmajfdcicjiaaGreatG5RFnHalvesAndShifts
import Derived.Test.YtpmmajfdcicjiaaGreatG3RFnHalvesAndShifts
import Derived.Test.YtpmmajfdcicjiaaGreatG16RFnHalvesAndShifts
import Derived.Test.YtpmmajfdcicjiaaGreatG7RFnHalvesAndShifts
import Derived.Test.YtpmmajfdcicjiaaGreatG17RFnHalvesAndShifts
import Derived.Test.YtpmmajfdcicjiaaGreatG19RFnHalvesAndShifts
import Derived.Deep.LoopGhost
import Derived.Deep.RegionHeld3
import Derived.Deep.QuietTactic
/- Fractions: plain Lean. -/
namespace Go.Proofs.YtpmmajfdcicjiaaGreat.N
set_option linter.unusedVariables false
set_option linter.unusedSimpArgs false

/-- Where the interval of an address begins. -/
def plA (a : List UInt8) : Nat := plI a a.length
theorem plI_append (a b : List UInt8) : ∀ i, i ≤ a.length → plI (a ++ b) i = plI a i
  | 0, _ => rfl
  | i + 1, h => by
    simp only [plI, plI_append a b i (by omega)]
    rw [List.getElem?_append_left (by omega)]
theorem plA_zero (a : List UInt8) : plA (a ++ [48]) = plA a := by
  unfold plA
  rw [List.length_append, List.length_singleton]
  simp only [plI]
  rw [plI_append _ _ _ (Nat.le_refl _), List.getElem?_append_right (Nat.le_refl _)]
  simp
theorem plA_one (a : List UInt8) : plA (a ++ [49]) = plA a + part (a.length + 1) := by
  unfold plA
  rw [List.length_append, List.length_singleton]
  simp only [plI]
  rw [plI_append _ _ _ (Nat.le_refl _), List.getElem?_append_right (Nat.le_refl _)]
  simp
/-- Intervals side by side from s to e. -/
def Chn (s e : Nat) : List (List UInt8) → Prop
  | [] => s = e
  | a :: l => plA a = s ∧ Chn (s + part a.length) e l
theorem Chn.append : ∀ {l1 l2 : List (List UInt8)} {s m e : Nat}, Chn s m l1 → Chn m e l2 → Chn s e (l1 ++ l2)
  | [], _, _, _, _, h1, h2 => by cases h1; exact h2
  | a :: l, _, _, _, _, h1, h2 => ⟨h1.1, h1.2.append h2⟩
theorem addrs_chn : ∀ (T : Tr) (a : List UInt8), a.length + T.depth ≤ 40 → Chn (plA a) (plA a + part a.length) (addrs T a)
  | .leaf, a, _ => ⟨rfl, rfl⟩
  | .node l r, a, h => by
    simp only [Tr.depth] at h
    have h1 := addrs_chn l (a ++ [48]) (by simp; omega)
    have h2 := addrs_chn r (a ++ [49]) (by simp; omega)
    rw [plA_zero] at h1
    rw [plA_one] at h2
    have e := part_step (k := a.length) (by omega)
    simp only [List.length_append, List.length_singleton] at h1 h2
    simp only [addrs]
    rw [e, show plA a + part (a.length + 1) * 2 = plA a + part (a.length + 1) + part (a.length + 1) by omega]
    exact h1.append h2
/-- The first interval that ends behind a place, else the last one. -/
def fi (p : Nat) : List (List UInt8) → Nat
  | [] => 0
  | a :: l => if p < plA a + part a.length then 0 else if l = [] then 0 else 1 + fi p l
theorem pcAt_fi (p : Nat) : ∀ l, pcAt l p = fi p l
  | [] => rfl
  | a :: l => by
    have ih := pcAt_fi p l
    unfold pcAt at ih ⊢
    simp only [fi]
    rw [List.findIdx?_cons]
    by_cases h : p < plA a + part a.length
    · rw [if_pos h, if_pos (by simpa [plA] using h)]; rfl
    · rw [if_neg h, if_neg (by simpa [plA] using h)]
      cases l with
      | nil => simp
      | cons b l =>
        rw [if_neg (by simp), ← ih]
        cases List.findIdx? (fun a => decide (p < plI a a.length + part a.length)) (b :: l) with
        | none => simp; omega
        | some x => simp; omega
theorem fi_in (p : Nat) : ∀ (l : List (List UInt8)) (s e : Nat), Chn s e l → l ≠ [] → s ≤ p → p ≤ e → ∃ a, l[fi p l]? = some a ∧ plA a ≤ p ∧ p ≤ plA a + part a.length
  | [], _, _, _, h, _, _ => absurd rfl h
  | a :: l, s, e, hc, _, hs, he => by
    simp only [fi]
    by_cases h : p < plA a + part a.length
    · rw [if_pos h]; exact ⟨a, rfl, by rw [hc.1]; exact hs, by omega⟩
    · rw [if_neg h]
      by_cases hl : l = []
      · rw [if_pos hl]
        subst hl
        have : s + part a.length = e := hc.2
        exact ⟨a, rfl, by rw [hc.1]; exact hs, by rw [hc.1]; omega⟩
      · rw [if_neg hl]
        obtain ⟨b, h1, h2, h3⟩ := fi_in p l _ e hc.2 hl (by rw [hc.1] at h; omega) he
        exact ⟨b, by rw [Nat.add_comm, List.getElem?_cons_succ]; exact h1, h2, h3⟩
/-- The last interval that begins at a place or ahead of it. -/
def si (p : Nat) : List (List UInt8) → Nat → Nat → Nat
  | [], _, c => c
  | a :: l, k, c => si p l (k + 1) (if plA a ≤ p then k else c)
theorem si_far (p : Nat) : ∀ (l : List (List UInt8)) (s e k c : Nat), Chn s e l → p < s → si p l k c = c
  | [], _, _, _, _, _, _ => rfl
  | a :: l, s, e, k, c, hc, h => by
    simp only [si]
    rw [hc.1, if_neg (by omega)]
    exact si_far p l _ e _ _ hc.2 (by omega)
theorem si_fi (p : Nat) : ∀ (l : List (List UInt8)) (s e k c : Nat), Chn s e l → l ≠ [] → s ≤ p → p ≤ e → si p l k c = k + fi p l
  | [], _, _, _, _, _, h, _, _ => absurd rfl h
  | a :: l, s, e, k, c, hc, _, hs, he => by
    simp only [si, fi]
    rw [hc.1, if_pos hs]
    by_cases h : p < s + part a.length
    · rw [if_pos h]; exact si_far p l _ e _ _ hc.2 h
    · rw [if_neg h]
      by_cases hl : l = []
      · subst hl; simp [si]
      · rw [if_neg hl, si_fi p l _ e _ _ hc.2 hl (by omega) he]; omega

/-- Where a leaf's interval is carried. -/
def vaL (a b : List UInt8) (p : Nat) : Nat := if b.length ≤ a.length then plA b + (p - plA a) * 2 ^ (a.length - b.length) else plA b + (p - plA a) / 2 ^ (b.length - a.length)
theorem part_pow {l s : Nat} (h : l + s ≤ 40) : part (l + s) * 2 ^ s = part l := by unfold part; rw [← Nat.pow_add]; congr 1; omega
theorem vaL_le (a b : List UInt8) (p : Nat) (ha : a.length ≤ 40) (hb : b.length ≤ 40) (h1 : plA a ≤ p) (h2 : p ≤ plA a + part a.length) : vaL a b p ≤ 1099511627776 ∧ (b.length ≤ a.length → (p - plA a) * 2 ^ (a.length - b.length) ≤ 1099511627776) := by
  have hB : plA b + part b.length ≤ 1099511627776 := plI_le b b.length hb
  unfold vaL
  split
  · rename_i h
    have e := part_pow (l := b.length) (s := a.length - b.length) (by omega)
    rw [show b.length + (a.length - b.length) = a.length by omega] at e
    have : (p - plA a) * 2 ^ (a.length - b.length) ≤ part a.length * 2 ^ (a.length - b.length) := Nat.mul_le_mul_right _ (by omega)
    constructor
    · omega
    · intro _; omega
  · rename_i h
    have e := part_pow (l := a.length) (s := b.length - a.length) (by omega)
    rw [show a.length + (b.length - a.length) = b.length by omega] at e
    have : (p - plA a) / 2 ^ (b.length - a.length) ≤ part b.length := by
      rw [← e] at h2
      refine Nat.div_le_of_le_mul ?_
      rw [Nat.mul_comm]; omega
    exact ⟨by omega, fun h' => absurd h' h⟩
/-- Where a pair of trees carries a place. -/
def vaF (A B : Tr) (p : Nat) : Nat := vaL ((addrs A []).getD (fi p (addrs A [])) []) ((addrs B []).getD (fi p (addrs A [])) []) p
def frF (V : Nat) : Option (Nat × Nat) := if (halve 40 V 1099511627776).2 ≤ 1024 then some (halve 40 V 1099511627776) else none
theorem goodB_true {n d : Int} (h : goodB n d = true) : ∃ m k : Nat, n = m ∧ d = ((2 ^ k : Nat) : Int) ∧ k ≤ 10 ∧ m ≤ 2 ^ k ∧ (k = 0 ∨ m % 2 = 1) := by
  unfold goodB at h
  simp only [Bool.and_eq_true, decide_eq_true_eq, Bool.or_eq_true, beq_iff_eq] at h
  obtain ⟨⟨⟨⟨h1, h2⟩, h3⟩, h4, h5⟩, h6⟩ := h
  obtain ⟨k, hk, hd⟩ := (isP2_iff _).1 h3
  refine ⟨n.toNat, k, by omega, by omega, hk, by omega, ?_⟩
  rcases h6 with h6 | h6
  · left
    rw [h6] at hd
    rcases Nat.eq_zero_or_pos k with h0 | h0
    · exact h0
    · have := Nat.pow_le_pow_right (show 0 < 2 by omega) h0
      simp at hd; omega
  · right; omega
end Go.Proofs.YtpmmajfdcicjiaaGreat.N
/- Values of pairs at fractions, the program's. -/
namespace Go.Proofs.YtpmmajfdcicjiaaGreat.N
open Go.RowKit
set_option linter.unusedVariables false
set_option linter.unusedSimpArgs false

theorem carr_facts (A B : Tr) (hc : A.carets = B.carets) (hB : B.carets ≤ 30) (p : Nat) (hp : p ≤ 1099511627776) : ∃ a b, (addrs A [])[fi p (addrs A [])]? = some a ∧ (addrs B [])[fi p (addrs A [])]? = some b ∧ a.length ≤ 40 ∧ b.length ≤ 40 ∧ plA a ≤ p ∧ p ≤ plA a + part a.length ∧ vaF A B p = vaL a b p := by
  have h1 := addrs_chn A [] (by have := A.depth_le; simp; omega)
  have e0 : plA ([] : List UInt8) = 0 := rfl
  rw [e0] at h1
  have e1 : (0 : Nat) + part ([] : List UInt8).length = 1099511627776 := by decide
  rw [e1] at h1
  have hn : addrs A [] ≠ [] := fun h => by have := addrs_length A []; rw [h] at this; simp at this
  obtain ⟨a, ha, h2, h3⟩ := fi_in p _ _ _ h1 hn (Nat.zero_le _) hp
  have hk : fi p (addrs A []) < (addrs B []).length := by
    have := (List.getElem?_eq_some_iff.1 ha).1
    rw [addrs_length] at this ⊢; omega
  have hb := List.getElem?_eq_getElem hk
  refine ⟨a, _, ha, hb, ?_, ?_, h2, h3, ?_⟩
  · have := addrs_depth A [] a (List.mem_of_getElem? ha); have := A.depth_le; simp at *; omega
  · have := addrs_depth B [] _ (List.getElem_mem hk); have := B.depth_le; simp at *; omega
  · unfold vaF
    rw [List.getD_eq_getElem?_getD, ha, List.getD_eq_getElem?_getD, hb]; rfl
set_option maxHeartbeats 1600000 in
theorem pieceValue (a b : List UInt8) (p : Nat) (hal : a.length ≤ 40) (hbl : b.length ≤ 40) (hp : p ≤ 1099511627776) (h1 : plA a ≤ p) (h2 : p ≤ plA a + part a.length) (W : World) :
    Calls Tryz.prog 114 #[.agg #[.int .i64 (plA a : Nat), .int .i64 (plA b : Nat), .int .i64 (a.length : Nat), .int .i64 (b.length : Nat)], .int .i64 p] W fun e w' => e = .returned (.int .i64 (vaL a b p : Nat)) ∧ Ext W w' := by
  obtain ⟨v1, v2⟩ := vaL_le a b p hal hbl h1 h2
  have HA0 : plA a + part a.length ≤ 1099511627776 := plI_le a a.length hal
  have HB0 : plA b + part b.length ≤ 1099511627776 := plI_le b b.length hbl
  unfold vaL
  generalize plA a = x at *
  generalize plA b = y at *
  by_cases hl : b.length ≤ a.length
  · rw [if_pos hl]
    have hx := v2 hl
    have e1 : (((p - x) * 2 ^ (a.length - b.length) : Nat) : Int) = ((p : Int) - (x : Nat)) * 2 ^ (a.length - b.length) := by
      rw [Int.natCast_mul, Int.natCast_pow, Int.natCast_sub h1]; rfl
    have e2 : ((p : Int) - (x : Nat)) * 2 ^ (a.length - b.length) ≤ 1099511627776 := by rw [← e1]; omega
    refine (value_up (x : Nat) (y : Nat) p a.length b.length hl hal (by omega) (by omega) e2 W).mono ?_
    rintro e w' ⟨rfl, x⟩
    exact ⟨by rw [Int.natCast_add, e1], x⟩
  · rw [if_neg hl]
    have e1 : (((p - x) / 2 ^ (b.length - a.length) : Nat) : Int) = ((p : Int) - (x : Nat)) / 2 ^ (b.length - a.length) := by
      rw [Int.natCast_ediv, Int.natCast_pow, Int.natCast_sub h1]; rfl
    refine (value_down (x : Nat) (y : Nat) p a.length b.length (by omega) hbl (by omega) (by omega) W).mono ?_
    rintro e w' ⟨rfl, x⟩
    exact ⟨by rw [Int.natCast_add, e1], x⟩
set_option maxHeartbeats 3200000 in
set_option maxRecDepth 100000 in
theorem carried_calls (A B : Tr) (hc : A.carets = B.carets) (hB : B.carets ≤ 30) (p : Nat) (hp : p ≤ 1099511627776) (pa pb : Option Addr) (w : World) (ra : Rep w A pa) (rb : Rep w B pb) :
    Calls Tryz.prog 63 #[.agg #[.pointer pa, .pointer pb], .int .i64 p] w fun e w' => e = .returned (.int .i64 (vaF A B p : Nat)) ∧ vaF A B p ≤ 1099511627776 ∧ Ext w w' := by
  have X0 := Lib.hid ((Ext.refl w).alloc (.cells #[.pointer pa, .pointer pb] 67))
  obtain ⟨c0, c1⟩ := cells_of (heap_alloc_new w (.cells #[.pointer pa, .pointer pb] 67))
  have C1 := Lib.hid (fun W (h : Ext w W) => pieces_calls A B hc hB pa pb W (ra.ext h) (rb.ext h))
  have LA := addrs_length A []
  have LB := addrs_length B []
  have C2 := Lib.hid (fun base v W => pieceAt_calls (addrs A []) (addrs B []) (by omega) (by omega) (by omega) (fun x hx => by have := addrs_depth A [] x hx; have := A.depth_le; simp at *; omega) p base hp v W)
  obtain ⟨a, b, ha, hb, hal, hbl, h1, h2, hv⟩ := carr_facts A B hc hB p hp
  obtain ⟨v1, v2⟩ := vaL_le a b p hal hbl h1 h2
  rw [pcAt_fi, ha, hb, LA] at C2
  have E : Hid (vaF A B p = vaL a b p) := hv
  have V1 := Lib.hid v1
  have C3 := Lib.hid (fun W => pieceValue a b p hal hbl hp h1 h2 W)
  rw [E.out]
  generalize vaL a b p = z at *
  change Hid (∀ base v W, _ → Calls _ _ _ W fun e w' => ∃ a' b', _ ∧ _ ∧ e = .returned (.agg (pcV a' b').toArray) ∧ Ext W w') at C2
  clear hc hB ra rb LA LB hp h1 h2 hv v1 v2 hal hbl ha hb E
  have PV : Hid ((pcV a b).toArray = #[.int .i64 (plA a : Nat), .int .i64 (plA b : Nat), .int .i64 (a.length : Nat), .int .i64 (b.length : Nat)]) := rfl
  generalize plA a = na at *
  generalize plA b = nb at *
  generalize addrs A [] = la at *
  generalize addrs B [] = lb at *
  go_enter Tryz.func63, Tryz.ntmps63
  go_wp2_with fail
  generalize w.alloc (.cells #[.pointer pa, .pointer pb] 67) = W at *
  refine (C1.out _ X0.out).mono ?_
  rintro e w1 ⟨v1, rfl, o1, x1⟩
  have X1 := Lib.hid (X0.out.trans x1)
  have O1 := Lib.hid o1
  clear o1 x1
  go_wp2_with fail
  refine (C2.out _ _ _ O1.out).mono ?_
  rintro e w2 ⟨a', b', ha', hb', rfl, x2⟩
  cases ha'; cases hb'
  rw [PV.out]
  have X2 := Lib.hid (X1.out.trans x2)
  clear x2
  go_wp2_with fail
  refine (C3.out _).mono ?_
  rintro e w3 ⟨rfl, x3⟩
  have X3 := Lib.hid (X2.out.trans x3)
  clear x3
  go_wp2_with fail
  go_ret
  exact ⟨rfl, V1.out, X3.out⟩

/-- What is told of a fraction that may be none. -/
def FrV : Option (Nat × Nat) → Value
  | none => .tuple #[.agg #[.int .i64 0, .int .i64 0], .bool false]
  | some x => .tuple #[.agg #[.int .i64 x.1, .int .i64 x.2], .bool true]
set_option maxHeartbeats 3200000 in
set_option maxRecDepth 100000 in
theorem toldAt_calls (p : Nat) (hp : p ≤ 1099511627776) (w : World) :
    Calls Tryz.prog 62 #[.int .i64 p] w fun e w' => e = .returned (FrV (frF p)) ∧ Ext w w' := by
  have X0 := Lib.hid ((Ext.refl w).alloc (.cells #[.int .i64 0, .int .i64 0] 36))
  have T0 := Lib.hid (Two.new w (.int .i64 0) (.int .i64 0) 36 rfl)
  have C1 := Lib.hid (fun W => fractionAt_calls p hp W)
  unfold frF
  generalize halve 40 p 1099511627776 = x at *
  obtain ⟨q, d⟩ := x
  simp only at C1 ⊢
  clear hp
  by_cases hd : d ≤ 1024
  · rw [decide_eq_true hd] at C1
    rw [if_pos hd]
    clear hd
    show Calls _ _ _ _ (fun e w' => e = .returned (.tuple #[.agg #[.int .i64 q, .int .i64 d], .bool true]) ∧ Ext w w')
    go_enter Tryz.func62, Tryz.ntmps62
    go_wp2_with fail
    generalize w.alloc (.cells #[.int .i64 0, .int .i64 0] 36) = W at *
    refine (C1.out _).mono ?_
    rintro e w1 ⟨rfl, x1⟩
    have xa := (Ext.refl w1).alloc (.cells #[.int .i64 q, .int .i64 d] 36)
    have X1 := Lib.hid (X0.out.trans (x1.trans xa))
    have T1 := Lib.hid (T0.out.ext (x1.trans xa))
    obtain ⟨u, v, k0, k1, f0, f1⟩ := T1.out.facts
    obtain ⟨d0, d1⟩ := cells_of (heap_alloc_new w1 (.cells #[.int .i64 q, .int .i64 d] 36))
    clear x1 xa
    go_wp2_with fail
    have HH := set2_heap T1.out (.int .i64 q) (.int .i64 d)
    have XX := X1.out.set2 (g := w.heap.size) (Nat.le_refl _) (.int .i64 q) (.int .i64 d)
    change bodyPost _ _ _ _ _ (N.set2 _ w.heap.size (.int .i64 q) (.int .i64 d))
    obtain ⟨hc0, hc1⟩ := cells_of HH
    generalize N.set2 _ w.heap.size (.int .i64 q) (.int .i64 d) = W3 at *
    exact bodyPost_ret (v := .tuple #[.agg #[.int .i64 q, .int .i64 d], .bool true]) (by simp [results, Tryz.results62, go_sem, hc0, hc1]) rfl ⟨rfl, XX⟩
  · rw [decide_eq_false hd] at C1
    rw [if_neg hd]
    clear hd
    show Calls _ _ _ _ (fun e w' => e = .returned (.tuple #[.agg #[.int .i64 0, .int .i64 0], .bool false]) ∧ Ext w w')
    go_enter Tryz.func62, Tryz.ntmps62
    go_wp2_with fail
    generalize w.alloc (.cells #[.int .i64 0, .int .i64 0] 36) = W at *
    refine (C1.out _).mono ?_
    rintro e w1 ⟨rfl, x1⟩
    have xa := (Ext.refl w1).alloc (.cells #[.int .i64 q, .int .i64 d] 36)
    have X1 := Lib.hid (X0.out.trans (x1.trans xa))
    have T1 := Lib.hid (T0.out.ext (x1.trans xa))
    obtain ⟨u, v, k0, k1, f0, f1⟩ := T1.out.facts
    clear x1 xa
    go_wp2_with fail
    have HH := set2_heap T1.out (.int .i64 0) (.int .i64 0)
    have XX := X1.out.set2 (g := w.heap.size) (Nat.le_refl _) (.int .i64 0) (.int .i64 0)
    change bodyPost _ _ _ _ _ (N.set2 _ w.heap.size (.int .i64 0) (.int .i64 0))
    obtain ⟨hc0, hc1⟩ := cells_of HH
    generalize N.set2 _ w.heap.size (.int .i64 0) (.int .i64 0) = W3 at *
    exact bodyPost_ret (v := .tuple #[.agg #[.int .i64 0, .int .i64 0], .bool false]) (by simp [results, Tryz.results62, go_sem, hc0, hc1]) rfl ⟨rfl, XX⟩
end Go.Proofs.YtpmmajfdcicjiaaGreat.N
