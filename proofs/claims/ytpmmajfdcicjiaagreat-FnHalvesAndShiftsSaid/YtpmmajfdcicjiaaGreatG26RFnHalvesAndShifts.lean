import Derived.Test.YtpmmajfdcicjiaaGreatG1RFnHalvesAndShifts
import Derived.Test.YtpmmajfdcicjiaaGreatG2RFnHalvesAndShifts
import Derived.Test.YtpmmajfdcicjiaaGreatProg
import Derived.Test.YtpmmajfdcicjiaaGreatG3RFnHalvesAndShifts
import Derived.Test.YtpmmajfdcicjiaaGreatG5RFnHalvesAndShifts
import Derived.Test.YtpmmajfdcicjiaaGreatG16RFnHalvesAndShifts
import Derived.Test.YtpmmajfdcicjiaaGreatG7RFnHalvesAndShifts
import Derived.Test.YtpmmajfdcicjiaaGreatG13RFnHalvesAndShifts
import Derived.Test.YtpmmajfdcicjiaaGreatG10RFnHalvesAndShifts
import Derived.Test.YtpmmajfdcicjiaaGreatG22RFnHalvesAndShifts
import Derived.Test.YtpmmajfdcicjiaaGreatG23RFnHalvesAndShifts
import Derived.Test.YtpmmajfdcicjiaaGreatG25RFnHalvesAndShifts
import Derived.Test.YtpmmajfdcicjiaaGreatG19RFnHalvesAndShifts
import Derived.Deep.LoopGhost
import Derived.Deep.RegionHeld3
import Derived.Deep.QuietTactic
import Derived.Test.YtpmmajfdcicjiaaGreatG4RFnHalvesAndShifts
import Derived.Test.YtpmmajfdcicjiaaGreatG6RFnHalvesAndShifts
import Derived.Test.YtpmmajfdcicjiaaGreatG8RFnHalvesAndShifts
import Derived.Test.YtpmmajfdcicjiaaGreatG18RFnHalvesAndShifts
/- Words of pairs and their sums: the program's functions. -/
namespace Go.Proofs.YtpmmajfdcicjiaaGreat.N
open Go.RowKit
set_option linter.unusedVariables false
set_option linter.unusedSimpArgs false

set_option maxHeartbeats 3200000 in
set_option maxRecDepth 100000 in
theorem wordOfPair_calls (A B : Tr) (hA : A.carets ≤ 100) (hB : B.carets ≤ 100) (pa pb : Option Addr) (w : World) (ra : Rep w A pa) (rb : Rep w B pb) :
    Calls Tryz.prog 67 #[.agg #[.pointer pa, .pointer pb]] w fun e w' => ∃ u, e = .returned u ∧ Own w' w.heap.size 3 u (ints (wordP (A, B))) ∧ Ext w w' := by
  have X0 := Lib.hid ((Ext.refl w).alloc (.cells #[.pointer pa, .pointer pb] 67))
  obtain ⟨c0, c1⟩ := cells_of (heap_alloc_new w (.cells #[.pointer pa, .pointer pb] 67))
  have C1 := Lib.hid (fun W (h : Ext w W) => exponents_calls A (by omega) pa W (ra.ext h))
  have C2 := Lib.hid (fun W (h : Ext w W) => exponents_calls B (by omega) pb W (rb.ext h))
  have W1 := Lib.hid (fun v W => wordOf_calls (expT A) A.carets (expT_le A) (by omega) (by rw [expT_length]; omega) v W)
  have W2 := Lib.hid (fun v W => wordOf_calls (expT B) B.carets (expT_le B) (by omega) (by rw [expT_length]; omega) v W)
  have l1 := wordL_length A
  have l2 := wordL_length B
  have m1 : A.carets * (A.carets + 1) ≤ 100 * 101 := Nat.mul_le_mul hA (by omega)
  have m2 : B.carets * (B.carets + 1) ≤ 100 * 101 := Nat.mul_le_mul hB (by omega)
  have I1 := Lib.hid (fun v W => inverseOf_calls (wordL (expT B)) (by omega) (fun x hx => by have := wordT_mem _ _ x hx; rw [expT_length] at this; omega) v W)
  have L : Hid (((ints (wordL (expT A))).length + (ints (invL (wordL (expT B)))).length) * 8 ≤ 140737488355328) := by show _ ≤ _; rw [ints_length, ints_length, invL_length]; omega
  have E : Hid (ints (wordL (expT A)) ++ ints (invL (wordL (expT B))) = ints (wordP (A, B))) := by show _ = _; rw [ints_append]; rfl
  generalize invL (wordL (expT B)) = LI at *
  generalize wordL (expT A) = LA at *
  generalize wordL (expT B) = LB at *
  generalize expT A = EA at *
  generalize expT B = EB at *
  generalize wordP (A, B) = LP at *
  clear ra rb hA hB l1 l2 m1 m2
  go_enter Tryz.func67, Tryz.ntmps67
  go_wp2_with fail
  generalize w.alloc (.cells #[.pointer pa, .pointer pb] 67) = W at *
  go_region_held3 (fun w' => w'.cell? ⟨w.heap.size, 0, none⟩ = some (.pointer pa) ∧ w'.cell? ⟨w.heap.size, 1, none⟩ = some (.pointer pb) ∧ Ext W w')
    (first | with_reducible exact two_cells c0 c1 (Ext.refl _).drew | with_reducible exact two_cells c0 c1 x6 | with_reducible exact two_cells c0 c1 x5 | with_reducible exact two_cells c0 c1 x4 | with_reducible exact two_cells c0 c1 x3 | with_reducible exact two_cells c0 c1 x2 | with_reducible exact two_cells c0 c1 x1 | fail)
    (first
      | (go_at_call_of 117 (Value.pointer pa); refine (C1.out _ (X0.out.trans (Ext.refl _).drew)).mono ?_; rintro e w1 ⟨v1, rfl, o1, hx1⟩; have x1 : Ext W w1 := (Ext.refl W).drew.trans hx1)
      | (go_at_call_of 116 v1; refine (W1.out v1 _ o1.reads).mono ?_; rintro e w2 ⟨v2, rfl, o2, hx2⟩; have x2 := x1.trans hx2; have o2 := o2.mono x1.size)
      | (go_at_call_of 117 (Value.pointer pb); refine (C2.out _ (X0.out.trans x2)).mono ?_; rintro e w3 ⟨v3, rfl, o3, hx3⟩; have x3 := x2.trans hx3)
      | (go_at_call_of 116 v3; refine (W2.out v3 _ o3.reads).mono ?_; rintro e w4 ⟨v4, rfl, o4, hx4⟩; have x4 := x3.trans hx4)
      | (go_at_call 118; refine (I1.out v4 _ o4.reads).mono ?_; rintro e w5 ⟨v5, rfl, o5, hx5⟩; have x5 := x4.trans hx5)
      | (refine step_app (by rfl) (.tmp 6) (.tmp 11) 45 (by rfl) W.heap.size 3 (.int .i64 0) 8 Tryz.underlying45 infoInt rfl (by omega) _ _ (ints LA) (ints LI) (by rfl) (by rfl) (o2.ext (hx3.trans (hx4.trans hx5))) o5.reads (ints_one _) L.out x5.size ?_; intro v6 w6 o6 g6 _; have x6 := x5.grown g6 o2.lo)
      | fail)
  go_wp2_with fail
  go_ret
  rw [E.out] at o6
  exact ⟨_, rfl, o6.mono X0.out.size, X0.out.trans x6⟩

theorem sumS_pos {s : Int × Int} {x : Int} (h : ¬ x < 0) : sumS s x = if x.natAbs = 1 then (s.1 + 1, s.2) else (s.1, s.2 + 1) := by unfold sumS sg; rw [if_neg h]
theorem sumS_neg {s : Int × Int} {x : Int} (h : x < 0) : sumS s x = if x.natAbs = 1 then (s.1 + -1, s.2) else (s.1, s.2 + -1) := by unfold sumS sg; rw [if_pos h]
set_option maxHeartbeats 3200000 in
set_option maxRecDepth 100000 in
theorem sums_calls (ws : List Int) (hl : ws.length ≤ 1000000) (hs : ∀ x ∈ ws, -1000000 ≤ x ∧ x ≤ 1000000) (v : Value) (w : World) (hv : Reads w v (ints ws)) :
    Calls Tryz.prog 66 #[v] w fun e w' => e = .returned (.tuple #[.int .i64 (sumW ws).1, .int .i64 (sumW ws).2]) ∧ w = w' := by
  obtain ⟨A, c, rfl, h0n, rd⟩ := hv
  rw [ints_length] at *
  have RD := Lib.hid rd
  have HS := Lib.hid hs
  clear rd hs
  go_enter Tryz.func66, Tryz.ntmps66
  go_wp2_with fail
  go_loop [11, 4, 5] (fun i a b => ∃ (k : Nat) (s : Int × Int), k ≤ ws.length ∧ i = .int .i64 k ∧ a = .int .i64 s.1 ∧ b = .int .i64 s.2 ∧ Hid (s = sumW (ws.take k))) (fun i _ _ => ws.length - (intOf i).toNat)
  case atStart => exact ⟨0, (0, 0), Nat.zero_le _, rfl, rfl, rfl, rfl⟩
  case round =>
    obtain ⟨k, s, hk, rfl, rfl, rfl, HE⟩ := hrel
    have SB := sumW_bound ws k hk
    rw [← HE.out] at SB
    by_cases hlt : k < ws.length
    · obtain ⟨ad, rfl, ca⟩ := RD.out (by omega)
      have hx : ws[k]? = some ws[k] := List.getElem?_eq_getElem hlt
      have ST := Lib.hid (sumW_take ws k _ hx)
      have XB := HS.out _ (List.getElem_mem hlt)
      have c1 := ca k _ (ints_get ws k hlt)
      have h0 : (0 : Int) ≤ k := by omega
      have h1 : (k : Int) < ws.length := by omega
      clear ca hx
      generalize ws[k] = x at *
      have CC := Lib.hid (size_calls x XB w)
      by_cases hn : x < 0
      all_goals
        by_cases h1' : x.natAbs = 1
        all_goals
          have SS := ST.out
          rw [← HE.out] at SS
          first | rw [sumS_neg hn] at SS | rw [sumS_pos hn] at SS
          first | rw [if_pos h1'] at SS | rw [if_neg h1'] at SS
          have SS := Lib.hid SS
          obtain ⟨s1, s2⟩ := s
          simp only at SB
          have t1 : ((x.natAbs : Int) == 1) = decide (x.natAbs = 1) := by
            rw [show ((x.natAbs : Int) == 1) = decide ((x.natAbs : Int) = 1) from rfl]
            exact decide_eq_decide.2 (by omega)
          first | rw [decide_eq_true h1'] at t1 | rw [decide_eq_false h1'] at t1
          clear h1'
          generalize (x.natAbs : Int) = z at *
          go_wp2_with fail
          refine CC.out.mono ?_
          rintro e w1 ⟨rfl, rfl⟩
          go_wp2_with fail
          exact ⟨⟨k + 1, _, by omega, by go_num, rfl, rfl, SS.out.symm⟩, by simp [intOf]; omega⟩
    · have h1 : (ws.length : Int) ≤ k := by omega
      obtain rfl : k = ws.length := by omega
      have HE2 : Hid (s = sumW ws) := by show _ = _; rw [HE.out, List.take_length]
      go_wp2_with fail
      go_ret2
      exact ⟨by rw [← HE2.out]; rfl, rfl⟩

/-- What is told of the sums of a pair. -/
def SuV (s : Option (Int × Int)) : Value := match s with
  | none => .tuple #[.int .i64 0, .int .i64 0, .bool false]
  | some s => .tuple #[.int .i64 s.1, .int .i64 s.2, .bool true]
set_option maxHeartbeats 3200000 in
set_option maxRecDepth 100000 in
theorem implSums_no (s t : ByteArray) (h : ¬ Good s t) (w : World) :
    Calls Tryz.prog 19 #[.agg #[.string s, .string t]] w fun e w' => e = .returned (SuV none) ∧ Ext w w' := by
  have X0 := Lib.hid ((Ext.refl w).alloc (.cells #[.string s, .string t] 25))
  have C1 := Lib.hid (pairOf_no s t h)
  clear h
  show Calls _ _ _ _ (fun e w' => e = .returned (.tuple #[.int .i64 0, .int .i64 0, .bool false]) ∧ Ext w w')
  obtain ⟨c0, c1⟩ := cells_of (heap_alloc_new w (.cells #[.string s, .string t] 25))
  go_enter Tryz.func19, Tryz.ntmps19
  go_wp2_with fail
  generalize w.alloc (.cells #[.string s, .string t] 25) = W at *
  refine (C1.out _).mono ?_
  rintro e w1 ⟨pa, pb, rfl, x1⟩
  have X1 := Lib.hid (X0.out.trans (x1.alloc (.cells #[.pointer pa, .pointer pb] 67)))
  clear x1
  go_wp2_with fail
  exact bodyPost_ret (v := .tuple #[.int .i64 0, .int .i64 0, .bool false]) (by simp [results, Tryz.results19, go_sem]) rfl ⟨rfl, X1.out⟩
set_option maxHeartbeats 3200000 in
set_option maxRecDepth 100000 in
theorem implSums_yes (A B : Tr) (hc : A.carets = B.carets) (hB : B.carets ≤ 8) (w : World) :
    Calls Tryz.prog 19 #[.agg #[.string (tx A), .string (tx B)]] w fun e w' => e = .returned (SuV (some (sumW (wordP (red (A, B)))))) ∧ Ext w w' := by
  have X0 := Lib.hid ((Ext.refl w).alloc (.cells #[.string (tx A), .string (tx B)] 25))
  have C1 := Lib.hid (fun W => pairOf_yes A B hc hB W)
  have C2 := Lib.hid (fun pa pb W => reduced_calls A B (by omega) (by omega) pa pb W)
  have hs := red_same (p := (A, B)) hc
  have hle := (red_le (A, B)).2
  have C3 := Lib.hid (fun pa pb W => wordOfPair_calls (red (A, B)).1 (red (A, B)).2 (by simp only at hle; omega) (by simp only at hle; omega) pa pb W)
  have wl := wordP_length (red (A, B))
  have m1 : (red (A, B)).1.carets * ((red (A, B)).1.carets + 1) ≤ 8 * 9 := Nat.mul_le_mul (by simp only at hle; omega) (by simp only at hle; omega)
  have m2 : (red (A, B)).2.carets * ((red (A, B)).2.carets + 1) ≤ 8 * 9 := Nat.mul_le_mul (by simp only at hle; omega) (by simp only at hle; omega)
  have C4 := Lib.hid (fun v W => sums_calls (wordP (red (A, B))) (by omega) (fun x hx => by have := wordP_mem hx; simp only at hle; omega) v W)
  change Hid (∀ pa pb W, Rep _ _ _ → Rep _ _ _ → Calls _ _ _ _ fun e w' => ∃ u, e = .returned u ∧ Own w' W.heap.size 3 u (ints (wordP (red (A, B)))) ∧ Ext W w') at C3
  show Calls _ _ _ _ (fun e w' => e = .returned (.tuple #[.int .i64 (sumW (wordP (red (A, B)))).1, .int .i64 (sumW (wordP (red (A, B)))).2, .bool true]) ∧ Ext w w')
  generalize sumW (wordP (red (A, B))) = Q at *
  generalize wordP (red (A, B)) = V at *
  generalize (red (A, B)).1 = R1 at *
  generalize (red (A, B)).2 = R2 at *
  generalize tx A = a at *
  generalize tx B = b at *
  clear hc hB hs hle wl m1 m2
  obtain ⟨c0, c1⟩ := cells_of (heap_alloc_new w (.cells #[.string a, .string b] 25))
  obtain ⟨q1, q2⟩ := Q
  go_enter Tryz.func19, Tryz.ntmps19
  go_wp2_with fail
  generalize w.alloc (.cells #[.string a, .string b] 25) = W at *
  refine (C1.out _).mono ?_
  rintro e w1 ⟨pa, pb, rfl, rA, rB, x1⟩
  have xa := (Ext.refl w1).alloc (.cells #[.pointer pa, .pointer pb] 67)
  have R := Lib.hid (And.intro (rA.ext xa) (rB.ext xa))
  have X1 := Lib.hid (X0.out.trans (x1.trans xa))
  obtain ⟨c0, c1⟩ := cells_of (heap_alloc_new w1 (.cells #[.pointer pa, .pointer pb] 67))
  clear rA rB x1 xa
  go_wp2_with fail
  generalize w1.alloc (.cells #[.pointer pa, .pointer pb] 67) = W1 at *
  refine (C2.out pa pb _ R.out.1 R.out.2).mono ?_
  rintro e w2 ⟨p1, p2, rfl, r1, r2, x2⟩
  have X2 := Lib.hid (X1.out.trans x2)
  have R2 := Lib.hid (And.intro r1 r2)
  clear x2 r1 r2
  go_wp2_with fail
  refine (C3.out _ _ _ R2.out.1 R2.out.2).mono ?_
  rintro e w3 ⟨u, rfl, o3, x3⟩
  have X3 := Lib.hid (X2.out.trans x3)
  have R3 := Lib.hid o3.reads
  clear x3 o3
  go_wp2_with fail
  refine (C4.out _ _ R3.out).mono ?_
  rintro e w4 ⟨rfl, rfl⟩
  go_wp2_with fail
  exact bodyPost_ret (v := .tuple #[.int .i64 q1, .int .i64 q2, .bool true]) (by simp [results, Tryz.results19, go_sem]) rfl ⟨rfl, X3.out⟩
end Go.Proofs.YtpmmajfdcicjiaaGreat.N
/- Words of pairs of texts and their sums: the reference's functions, and the law. -/
namespace Go.Proofs.YtpmmajfdcicjiaaGreat.N
open Go.RowKit
set_option linter.unusedVariables false
set_option linter.unusedSimpArgs false

set_option maxHeartbeats 3200000 in
set_option maxRecDepth 100000 in
theorem wdExponents_calls (T : Tr) : ∀ (k : Nat) (w : World), T.depth ≤ 60 → T.carets ≤ 1000 → k + T.carets ≤ 100000 →
    Calls Tryz.prog 149 #[.string (tx T), .int .i64 k] w (GivesN w (climb T k)) := by
  induction T with
  | leaf =>
    intro k w _ _ _
    have C1 := Lib.hid (fun W => trLeaf_leaf W)
    generalize tx .leaf = z at *
    have OL : Hid (Own (w.alloc (.cells #[.int .i64 k] 3)) w.heap.size 3 (.slice (some ⟨w.heap.size, 0, none⟩) 1 1) (nats [k])) := Own.lit w w.heap.size 3 #[.int .i64 k] (Nat.le_refl _) (by show 1 ≤ maxLen; decide)
    have XL := Lib.hid ((Ext.refl w).alloc (.cells #[.int .i64 k] 3))
    go_enter Tryz.func149, Tryz.ntmps149
    go_wp2_with fail
    refine (C1.out _).mono ?_
    rintro e w1 ⟨rfl, rfl⟩
    go_wp2_with fail
    go_ret
    exact ⟨_, rfl, OL.out, XL.out⟩
  | node l r ihl ihr =>
    intro k w hd hc hk
    have C1 := Lib.hid (fun W => trLeaf_node l r W)
    have C3 := Lib.hid (fun W => trSides_calls l r hd (by omega) W)
    simp only [Tr.depth, Tr.carets] at hd hc hk
    have C5 := Lib.hid (fun W => ihl (k + 1) W (by omega) (by omega) (by omega))
    have C6 := Lib.hid (fun W => ihr 0 W (by omega) (by omega) (by omega))
    have L2 : Hid (((nats (climb l (k + 1))).length + (nats (climb r 0)).length) * 8 ≤ 140737488355328) := by show _ ≤ _; rw [nats_length, nats_length, climb_length, climb_length]; omega
    rw [show climb (.node l r) k = climb l (k + 1) ++ climb r 0 from rfl]
    have W1 : Hid ((k : Int) + 1 = ((k + 1 : Nat) : Int)) := by show _ = _; omega
    have kb : (0 : Int) ≤ k ∧ (k : Int) ≤ 100000 := by omega
    generalize climb l (k + 1) = L1 at *
    generalize climb r 0 = LR at *
    generalize tx (.node l r) = a at *
    generalize tx l = sl at *
    generalize tx r = sr at *
    clear ihl ihr hd hc hk
    go_enter Tryz.func149, Tryz.ntmps149
    go_wp2_with fail
    refine (C1.out _).mono ?_
    rintro e w1 ⟨rfl, rfl⟩
    go_wp2_with fail
    refine (C3.out _).mono ?_
    rintro e w1 ⟨rfl, n1, rfl⟩
    have X2 := Lib.hid ((Ext.refl w).drewN n1)
    generalize w.drewN n1 = w2 at *
    go_wp2_with fail
    rw [W1.out]
    refine (C5.out _).mono ?_
    rintro e w3 ⟨v3, rfl, o3, x3⟩
    have X3 := Lib.hid (X2.out.trans x3)
    have O3 := Lib.hid (o3.mono X2.out.size)
    clear o3 x3
    go_wp2_with fail
    refine (C6.out _).mono ?_
    rintro e w4 ⟨v4, rfl, o4, x4⟩
    have X4 := Lib.hid (X3.out.trans x4)
    have O4 := o4.reads
    have O3 := O3.out.ext x4
    have B1 := Lib.hid X4.out.size
    clear o4 x4
    go_wp2_with (at_builtin; refine wpList_app rfl (.tmp 19) (.tmp 21) 45 rfl w.heap.size 3 (.int .i64 0) 8 Tryz.underlying45 infoInt rfl (by omega) _ _ _ (nats LR) rfl rfl O3 O4 (nats_one _) L2.out B1.out ?_; intro v5 w5 o5 g5 _)
    have X5 := Lib.hid (X4.out.grown g5 O3.lo)
    rw [nats_append] at o5
    have O5 := Lib.hid o5
    clear o5 g5 O3 O4
    go_wp2_with fail
    go_ret
    exact ⟨_, rfl, O5.out, X5.out⟩

set_option maxHeartbeats 3200000 in
set_option maxRecDepth 100000 in
theorem wdRight_calls (T : Tr) : ∀ (w : World), T.depth ≤ 60 → T.carets ≤ 1000 →
    Calls Tryz.prog 119 #[.string (tx T)] w (GivesN w (expT T)) := by
  induction T with
  | leaf =>
    intro w _ _
    have C1 := Lib.hid (fun W => trLeaf_leaf W)
    generalize tx .leaf = z at *
    have OL : Hid (Own (w.alloc (.cells #[.int .i64 0] 3)) w.heap.size 3 (.slice (some ⟨w.heap.size, 0, none⟩) 1 1) (nats [0])) := Own.lit w w.heap.size 3 #[.int .i64 0] (Nat.le_refl _) (by show 1 ≤ maxLen; decide)
    have XL := Lib.hid ((Ext.refl w).alloc (.cells #[.int .i64 0] 3))
    go_enter Tryz.func119, Tryz.ntmps119
    go_wp2_with fail
    refine (C1.out _).mono ?_
    rintro e w1 ⟨rfl, rfl⟩
    go_wp2_with fail
    go_ret
    exact ⟨_, rfl, OL.out, XL.out⟩
  | node l r ihl ihr =>
    intro w hd hc
    have C1 := Lib.hid (fun W => trLeaf_node l r W)
    have C3 := Lib.hid (fun W => trSides_calls l r hd (by omega) W)
    simp only [Tr.depth, Tr.carets] at hd hc
    have C5 : Hid (∀ W, Calls Tryz.prog 149 #[.string (tx l), .int .i64 0] W (GivesN W (climb l 0))) := (fun W => wdExponents_calls l 0 W (by omega) (by omega) (by omega))
    have C6 := Lib.hid (fun W => ihr W (by omega) (by omega))
    have L2 : Hid (((nats (climb l 0)).length + (nats (expT r)).length) * 8 ≤ 140737488355328) := by show _ ≤ _; rw [nats_length, nats_length, climb_length, expT_length]; omega
    rw [show expT (.node l r) = climb l 0 ++ expT r from rfl]
    generalize climb l 0 = L1 at *
    generalize expT r = LR at *
    generalize tx (.node l r) = a at *
    generalize tx l = sl at *
    generalize tx r = sr at *
    clear ihl ihr hd hc
    go_enter Tryz.func119, Tryz.ntmps119
    go_wp2_with fail
    refine (C1.out _).mono ?_
    rintro e w1 ⟨rfl, rfl⟩
    go_wp2_with fail
    refine (C3.out _).mono ?_
    rintro e w1 ⟨rfl, n1, rfl⟩
    have X2 := Lib.hid ((Ext.refl w).drewN n1)
    generalize w.drewN n1 = w2 at *
    go_wp2_with fail
    refine (C5.out _).mono ?_
    rintro e w3 ⟨v3, rfl, o3, x3⟩
    have X3 := Lib.hid (X2.out.trans x3)
    have O3 := Lib.hid (o3.mono X2.out.size)
    clear o3 x3
    go_wp2_with fail
    refine (C6.out _).mono ?_
    rintro e w4 ⟨v4, rfl, o4, x4⟩
    have X4 := Lib.hid (X3.out.trans x4)
    have O4 := o4.reads
    have O3 := O3.out.ext x4
    have B1 := Lib.hid X4.out.size
    clear o4 x4
    go_wp2_with (at_builtin; refine wpList_app rfl (.tmp 14) (.tmp 16) 45 rfl w.heap.size 3 (.int .i64 0) 8 Tryz.underlying45 infoInt rfl (by omega) _ _ _ (nats LR) rfl rfl O3 O4 (nats_one _) L2.out B1.out ?_; intro v5 w5 o5 g5 _)
    have X5 := Lib.hid (X4.out.grown g5 O3.lo)
    rw [nats_append] at o5
    have O5 := Lib.hid o5
    clear o5 g5 O3 O4
    go_wp2_with fail
    go_ret
    exact ⟨_, rfl, O5.out, X5.out⟩

theorem wordT_step (xs : List Nat) (k : Nat) (h : k < xs.length) : wordT xs (k + 1) = wordT xs k ++ List.replicate xs[k] ((k : Int) + 1) := by
  simp only [wordT]
  rw [List.getD_eq_getElem?_getD, List.getElem?_eq_getElem h]; rfl
set_option maxHeartbeats 6400000 in
set_option maxRecDepth 100000 in
theorem wdOf_calls (A B : Tr) (hA : A.carets ≤ 50) (hB : B.carets ≤ 50) (w : World) :
    Calls Tryz.prog 68 #[.agg #[.string (tx A), .string (tx B)]] w fun e w' => ∃ u, e = .returned u ∧ Own w' w.heap.size 3 u (ints (wordP (A, B))) ∧ Ext w w' := by
  have X0 := Lib.hid ((Ext.refl w).alloc (.cells #[.string (tx A), .string (tx B)] 25))
  have B0 := Lib.hid (heap_alloc_new w (.cells #[.string (tx A), .string (tx B)] 25))
  have dA := A.depth_le
  have dB := B.depth_le
  have C1 := Lib.hid (fun W => wdRight_calls A W (by omega) (by omega))
  have C2 := Lib.hid (fun W => wdRight_calls B W (by omega) (by omega))
  have l1 := wordL_length A
  have l2 := wordL_length B
  have m1 : A.carets * (A.carets + 1) ≤ 50 * 51 := Nat.mul_le_mul hA (by omega)
  have m2 : B.carets * (B.carets + 1) ≤ 50 * 51 := Nat.mul_le_mul hB (by omega)
  have I1 := Lib.hid (fun v W => wdInverse_calls (wordL (expT B)) (by omega) (fun x hx => by have := wordT_mem _ _ x hx; rw [expT_length] at this; omega) v W)
  have L : Hid (((ints (wordL (expT A))).length + (ints (invL (wordL (expT B)))).length) * 8 ≤ 140737488355328) := by show _ ≤ _; rw [ints_length, ints_length, invL_length]; omega
  have E : Hid (ints (wordL (expT A)) ++ ints (invL (wordL (expT B))) = ints (wordP (A, B))) := by show _ = _; rw [ints_append]; rfl
  have HLA := Lib.hid (wordT_length (expT A) 50 (fun x hx => Nat.le_trans (expT_le A x hx) hA))
  have HLB := Lib.hid (wordT_length (expT B) 50 (fun x hx => Nat.le_trans (expT_le B x hx) hB))
  have HBA : Hid (∀ x ∈ expT A, x ≤ 50) := (fun x hx => Nat.le_trans (expT_le A x hx) hA)
  have HBB : Hid (∀ x ∈ expT B, x ≤ 50) := (fun x hx => Nat.le_trans (expT_le B x hx) hB)
  have elA : (expT A).length ≤ 51 := by rw [expT_length]; omega
  have elB : (expT B).length ≤ 51 := by rw [expT_length]; omega
  have EA2 : Hid (wordT (expT A) (expT A).length = wordL (expT A)) := rfl
  have EB2 : Hid (wordT (expT B) (expT B).length = wordL (expT B)) := rfl
  generalize wordP (A, B) = LP at *
  generalize expT A = EA at *
  generalize expT B = EB at *
  generalize tx A = a at *
  generalize tx B = b at *
  clear hA hB l1 l2 m1 m2 dA dB
  obtain ⟨c0, c1⟩ := cells_of B0.out
  go_enter Tryz.func68, Tryz.ntmps68
  go_wp2_with fail
  generalize w.alloc (.cells #[.string a, .string b] 25) = W at *
  refine (C1.out _).mono ?_
  rintro e w1 ⟨v1, rfl, o1, x1⟩
  obtain ⟨A1, q1, rfl, _, _⟩ := o1.reads
  rw [nats_length] at o1 ⊢
  have V1 := Lib.hid o1.reads
  have X1 := Lib.hid (X0.out.trans x1)
  have B1 := Lib.hid (x1.at B0.out)
  clear o1 x1 c0 c1
  go_wp2_with fail
  go_loopw [13, 3] (fun i o wr => ∃ k : Nat, k ≤ EA.length ∧ i = .int .i64 k ∧ Hid (Own wr w1.heap.size 3 o (ints (wordT EA k))) ∧ Hid (Ext w1 wr)) (fun i _ _ => EA.length - (intOf i).toNat)
  case atStart => exact ⟨0, Nat.zero_le _, rfl, Own.nil _ _ _, Ext.refl _⟩
  case round =>
    obtain ⟨k, hk, rfl, HO, HX⟩ := hrel
    by_cases hlt : k < EA.length
    · obtain ⟨A1, c1', e1, _, rd⟩ := V1.out.ext HX.out
      rw [nats_length] at rd e1
      obtain ⟨ad, e2, ca⟩ := rd (by omega)
      injection e1 with e3 e4 e5
      subst e3 e5
      subst e2
      clear e4
      have c1 := ca k _ (nats_get EA k hlt)
      have h0 : (0 : Int) ≤ k := by omega
      have h1 : (k : Int) < EA.length := by omega
      have WS := Lib.hid (wordT_step EA k hlt)
      have XB : Hid (EA[k] ≤ 50) := HBA.out _ (List.getElem_mem hlt)
      have LK := Lib.hid (HLA.out k)
      generalize EA[k] = n at *
      have nb : (n : Int) ≤ 50 := by have := XB.out; omega
      clear ca rd
      go_wp2_with fail
      go_loopw [6, 3] (fun i o wr => ∃ j : Nat, j ≤ n ∧ i = .int .i64 ((n : Int) - j) ∧ Hid (Own wr w1.heap.size 3 o (ints (wordT EA k ++ List.replicate j ((k : Int) + 1)))) ∧ Hid (Ext w1 wr)) (fun i _ _ => (intOf i).toNat)
      case atStart => exact ⟨0, Nat.zero_le _, by go_num, (by simpa [Hid] using HO.out), HX.out⟩
      case round =>
        obtain ⟨j, hj, rfl, HO, HX⟩ := hrel
        by_cases hjn : j < n
        · have j1 : (0 : Int) < (n : Int) - j := by omega
          have O2 := HO.out.ext ((Ext.refl _).alloc (.cells #[.int .i64 ((k : Int) + 1)] 3))
          have RL : Hid (Reads (wr.alloc (.cells #[.int .i64 ((k : Int) + 1)] 3)) (.slice (some ⟨wr.heap.size, 0, none⟩) 1 1) (ints [(k : Int) + 1])) := (Own.lit wr 0 3 #[.int .i64 ((k : Int) + 1)] (Nat.zero_le _) (by show 1 ≤ maxLen; decide)).reads
          have LL : Hid (((ints (wordT EA k ++ List.replicate j ((k : Int) + 1))).length + (ints [(k : Int) + 1]).length) * 8 ≤ 140737488355328) := by
            show _ ≤ _
            rw [ints_length, ints_length, List.length_append, List.length_replicate]
            have := LK.out; have := XB.out
            simp only [List.length_singleton]
            omega
          have BB1 := Lib.hid (HX.out.alloc (.cells #[.int .i64 ((k : Int) + 1)] 3)).size
          go_wp2_with (at_builtin; refine wpList_app rfl (.tmp 22) (.tmp 25) 45 rfl w1.heap.size 3 (.int .i64 0) 8 Tryz.underlying45 infoInt rfl (by omega) _ _ _ (ints [(k : Int) + 1]) rfl rfl O2 RL.out (ints_one _) LL.out BB1.out ?_; intro v4 w4 o4 g4 _)
          have X4 := Lib.hid ((HX.out.alloc _).grown g4 O2.lo)
          rw [ints_append, List.append_assoc, ← List.replicate_succ'] at o4
          have O4 := Lib.hid o4
          clear o4 g4 O2
          go_wp2_with fail
          exact ⟨⟨j + 1, by omega, by go_num, O4.out, X4.out⟩, by simp [intOf]; omega⟩
        · have j1 : (n : Int) - j ≤ 0 := by omega
          obtain rfl : j = n := by omega
          go_wp2_with fail
          exact ⟨⟨k + 1, by omega, by go_num, by rw [WS.out]; exact HO.out, HX.out⟩, by simp [intOf]; omega⟩
    · have h1 : (EA.length : Int) ≤ k := by omega
      obtain rfl : k = EA.length := by omega
      rw [EA2.out] at HO
      obtain ⟨c0, c1⟩ := cells_of (HX.out.at B1.out)
      go_wp2_with fail
      refine (C2.out _).mono ?_
      rintro e w3 ⟨v3, rfl, o3, x3⟩
      obtain ⟨A3, q3, rfl, _, _⟩ := o3.reads
      rw [nats_length] at o3 ⊢
      have V2 := Lib.hid o3.reads
      have X3 := Lib.hid (HX.out.trans x3)
      have O3 := Lib.hid (HO.out.ext x3)
      clear o3 x3 c0 c1
      go_wp2_with fail
      go_loopw [32, 4] (fun i o wr => ∃ k : Nat, k ≤ EB.length ∧ i = .int .i64 k ∧ Hid (Own wr w3.heap.size 3 o (ints (wordT EB k))) ∧ Hid (Ext w3 wr)) (fun i _ _ => EB.length - (intOf i).toNat)
      case atStart => exact ⟨0, Nat.zero_le _, rfl, Own.nil _ _ _, Ext.refl _⟩
      case round =>
        obtain ⟨k, hk, rfl, HO, HX⟩ := hrel
        by_cases hlt : k < EB.length
        · obtain ⟨A1, c1', e1, _, rd⟩ := V2.out.ext HX.out
          rw [nats_length] at rd e1
          obtain ⟨ad, e2, ca⟩ := rd (by omega)
          injection e1 with e3 e4 e5
          subst e3 e5
          subst e2
          clear e4
          have c1 := ca k _ (nats_get EB k hlt)
          have h0 : (0 : Int) ≤ k := by omega
          have h1 : (k : Int) < EB.length := by omega
          have WS := Lib.hid (wordT_step EB k hlt)
          have XB : Hid (EB[k] ≤ 50) := HBB.out _ (List.getElem_mem hlt)
          have LK := Lib.hid (HLB.out k)
          generalize EB[k] = n at *
          have nb : (n : Int) ≤ 50 := by have := XB.out; omega
          clear ca rd
          go_wp2_with fail
          go_loopw [8, 4] (fun i o wr => ∃ j : Nat, j ≤ n ∧ i = .int .i64 ((n : Int) - j) ∧ Hid (Own wr w3.heap.size 3 o (ints (wordT EB k ++ List.replicate j ((k : Int) + 1)))) ∧ Hid (Ext w3 wr)) (fun i _ _ => (intOf i).toNat)
          case atStart => exact ⟨0, Nat.zero_le _, by go_num, (by simpa [Hid] using HO.out), HX.out⟩
          case round =>
            obtain ⟨j, hj, rfl, HO, HX⟩ := hrel
            by_cases hjn : j < n
            · have j1 : (0 : Int) < (n : Int) - j := by omega
              have O2 := HO.out.ext ((Ext.refl _).alloc (.cells #[.int .i64 ((k : Int) + 1)] 3))
              have RL : Hid (Reads (wr.alloc (.cells #[.int .i64 ((k : Int) + 1)] 3)) (.slice (some ⟨wr.heap.size, 0, none⟩) 1 1) (ints [(k : Int) + 1])) := (Own.lit wr 0 3 #[.int .i64 ((k : Int) + 1)] (Nat.zero_le _) (by show 1 ≤ maxLen; decide)).reads
              have LL : Hid (((ints (wordT EB k ++ List.replicate j ((k : Int) + 1))).length + (ints [(k : Int) + 1]).length) * 8 ≤ 140737488355328) := by
                show _ ≤ _
                rw [ints_length, ints_length, List.length_append, List.length_replicate]
                have := LK.out; have := XB.out
                simp only [List.length_singleton]
                omega
              have BB1 := Lib.hid (HX.out.alloc (.cells #[.int .i64 ((k : Int) + 1)] 3)).size
              go_wp2_with (at_builtin; refine wpList_app rfl (.tmp 41) (.tmp 44) 45 rfl w3.heap.size 3 (.int .i64 0) 8 Tryz.underlying45 infoInt rfl (by omega) _ _ _ (ints [(k : Int) + 1]) rfl rfl O2 RL.out (ints_one _) LL.out BB1.out ?_; intro v4 w4 o4 g4 _)
              have X4 := Lib.hid ((HX.out.alloc _).grown g4 O2.lo)
              rw [ints_append, List.append_assoc, ← List.replicate_succ'] at o4
              have O4 := Lib.hid o4
              clear o4 g4 O2
              go_wp2_with fail
              exact ⟨⟨j + 1, by omega, by go_num, O4.out, X4.out⟩, by simp [intOf]; omega⟩
            · have j1 : (n : Int) - j ≤ 0 := by omega
              obtain rfl : j = n := by omega
              go_wp2_with fail
              exact ⟨⟨k + 1, by omega, by go_num, by rw [WS.out]; exact HO.out, HX.out⟩, by simp [intOf]; omega⟩
        · have h1 : (EB.length : Int) ≤ k := by omega
          obtain rfl : k = EB.length := by omega
          rw [EB2.out] at HO
          have R5 := Lib.hid HO.out.reads
          go_wp2_with fail
          refine (I1.out _ _ R5.out).mono ?_
          rintro e w5 ⟨v5, rfl, o5, x5⟩
          have O3 := O3.out.ext (HX.out.trans x5)
          have X5 := Lib.hid (X3.out.trans (HX.out.trans x5))
          have O5 := o5.reads
          have BB := Lib.hid X5.out.size
          clear o5 x5
          go_wp2_with (at_builtin; refine wpList_app rfl (.tmp 47) (.tmp 49) 45 rfl w1.heap.size 3 (.int .i64 0) 8 Tryz.underlying45 infoInt rfl (by omega) _ _ _ (ints (invL (wordL EB))) rfl rfl O3 O5 (ints_one _) L.out BB.out ?_; intro v6 w6 o6 g6 _)
          have X6 := Lib.hid (X5.out.grown g6 O3.lo)
          rw [E.out] at o6
          have O6 := Lib.hid o6
          clear o6 g6 O3 O5
          go_wp2_with fail
          go_ret
          exact ⟨_, rfl, O6.out.mono X1.out.size, X1.out.trans X6.out⟩

theorem l1Abs_calls (n : Int) (hn : -1000000 ≤ n ∧ n ≤ 1000000) (w : World) :
    Calls Tryz.prog 69 #[.int .i64 n] w fun e w' => e = .returned (.int .i64 (n.natAbs : Nat)) ∧ w = w' := by
  have C1 := Lib.hid (fun W => l1Most_calls n (-n) W)
  go_enter Tryz.func69, Tryz.ntmps69
  go_wp2_with fail
  refine (C1.out _).mono ?_
  rintro e w1 ⟨rfl, rfl⟩
  go_wp2_with fail
  all_goals go_ret
  all_goals exact ⟨ret_int (by omega), rfl⟩

set_option maxHeartbeats 3200000 in
set_option maxRecDepth 100000 in
theorem specSums_no (s t : ByteArray) (h : ¬ Good s t) (w : World) :
    Calls Tryz.prog 20 #[.agg #[.string s, .string t]] w fun e w' => e = .returned (SuV none) ∧ Ext w w' := by
  have X0 := Lib.hid ((Ext.refl w).alloc (.cells #[.string s, .string t] 25))
  have C1 := Lib.hid (fun W => prGood_no s t h W)
  clear h
  show Calls _ _ _ _ (fun e w' => e = .returned (.tuple #[.int .i64 0, .int .i64 0, .bool false]) ∧ Ext w w')
  obtain ⟨c0, c1⟩ := cells_of (heap_alloc_new w (.cells #[.string s, .string t] 25))
  go_enter Tryz.func20, Tryz.ntmps20
  go_wp2_with fail
  generalize w.alloc (.cells #[.string s, .string t] 25) = W at *
  refine (C1.out _).mono ?_
  rintro e w1 ⟨rfl, x1⟩
  have X1 := Lib.hid (X0.out.trans x1)
  clear x1
  go_wp2_with fail
  exact bodyPost_ret (v := .tuple #[.int .i64 0, .int .i64 0, .bool false]) (by simp [results, Tryz.results20, go_sem]) rfl ⟨rfl, X1.out⟩
set_option maxHeartbeats 3200000 in
set_option maxRecDepth 100000 in
theorem specSums_yes (A B : Tr) (hc : A.carets = B.carets) (hB : B.carets ≤ 8) (w : World) :
    Calls Tryz.prog 20 #[.agg #[.string (tx A), .string (tx B)]] w fun e w' => e = .returned (SuV (some (sumW (wordP (red (A, B)))))) ∧ Ext w w' := by
  have X0 := Lib.hid ((Ext.refl w).alloc (.cells #[.string (tx A), .string (tx B)] 25))
  have B0 := Lib.hid (heap_alloc_new w (.cells #[.string (tx A), .string (tx B)] 25))
  have C1 := Lib.hid (fun W => prGood_yes A B hc hB W)
  have C2 := Lib.hid (fun W => prReduce_calls A B (by omega) (by omega) W)
  have hs := red_same (p := (A, B)) hc
  have hle := (red_le (A, B)).2
  have C3 := Lib.hid (fun W => wdOf_calls (red (A, B)).1 (red (A, B)).2 (by simp only at hle; omega) (by simp only at hle; omega) W)
  have wl := wordP_length (red (A, B))
  have m1 : (red (A, B)).1.carets * ((red (A, B)).1.carets + 1) ≤ 8 * 9 := Nat.mul_le_mul (by simp only at hle; omega) (by simp only at hle; omega)
  have m2 : (red (A, B)).2.carets * ((red (A, B)).2.carets + 1) ≤ 8 * 9 := Nat.mul_le_mul (by simp only at hle; omega) (by simp only at hle; omega)
  have HS : Hid (∀ x ∈ wordP (red (A, B)), -1000000 ≤ x ∧ x ≤ 1000000) := (fun x hx => by have := wordP_mem hx; simp only at hle; omega)
  have hl : (wordP (red (A, B))).length ≤ 1000000 := by omega
  change Hid (∀ W, Calls _ _ _ _ fun e w' => ∃ u, e = .returned u ∧ Own w' W.heap.size 3 u (ints (wordP (red (A, B)))) ∧ Ext W w') at C3
  show Calls _ _ _ _ (fun e w' => e = .returned (.tuple #[.int .i64 (sumW (wordP (red (A, B)))).1, .int .i64 (sumW (wordP (red (A, B)))).2, .bool true]) ∧ Ext w w')
  generalize wordP (red (A, B)) = ws at *
  generalize tx (red (A, B)).1 = R1 at *
  generalize tx (red (A, B)).2 = R2 at *
  generalize tx A = a at *
  generalize tx B = b at *
  clear hc hB hs hle wl m1 m2
  obtain ⟨c0, c1⟩ := cells_of B0.out
  go_enter Tryz.func20, Tryz.ntmps20
  go_wp2_with fail
  generalize w.alloc (.cells #[.string a, .string b] 25) = W at *
  refine (C1.out _).mono ?_
  rintro e w1 ⟨rfl, x1⟩
  obtain ⟨c0, c1⟩ := cells_of (x1.at B0.out)
  have X1 := Lib.hid (X0.out.trans x1)
  clear x1
  go_wp2_with fail
  refine (C2.out _).mono ?_
  rintro e w2 ⟨rfl, x2⟩
  have X2 := Lib.hid (X1.out.trans x2)
  clear x2 c0 c1
  go_wp2_with fail
  refine (C3.out _).mono ?_
  rintro e w3 ⟨u, rfl, o3, x3⟩
  have X3 := Lib.hid (X2.out.trans x3)
  obtain ⟨A1, q1, rfl, _, rd⟩ := o3.reads
  rw [ints_length] at *
  have RD := Lib.hid rd
  clear x3 o3 rd
  go_wp2_with fail
  go_loop [17, 5, 6] (fun i a b => ∃ (k : Nat) (s : Int × Int), k ≤ ws.length ∧ i = .int .i64 k ∧ a = .int .i64 s.1 ∧ b = .int .i64 s.2 ∧ Hid (s = sumW (ws.take k))) (fun i _ _ => ws.length - (intOf i).toNat)
  case atStart => exact ⟨0, (0, 0), Nat.zero_le _, rfl, rfl, rfl, rfl⟩
  case round =>
    obtain ⟨k, s, hk, rfl, rfl, rfl, HE⟩ := hrel
    have SB := sumW_bound ws k hk
    rw [← HE.out] at SB
    by_cases hlt : k < ws.length
    · obtain ⟨ad, rfl, ca⟩ := RD.out (by omega)
      have hx : ws[k]? = some ws[k] := List.getElem?_eq_getElem hlt
      have ST := Lib.hid (sumW_take ws k _ hx)
      have XB := HS.out _ (List.getElem_mem hlt)
      have c1 := ca k _ (ints_get ws k hlt)
      have h0 : (0 : Int) ≤ k := by omega
      have h1 : (k : Int) < ws.length := by omega
      clear ca hx
      generalize ws[k] = x at *
      have CC := Lib.hid (l1Abs_calls x XB w3)
      by_cases hn : x < 0
      all_goals
        by_cases h1' : x.natAbs = 1
        all_goals
          have SS := ST.out
          rw [← HE.out] at SS
          first | rw [sumS_neg hn] at SS | rw [sumS_pos hn] at SS
          first | rw [if_pos h1'] at SS | rw [if_neg h1'] at SS
          have SS := Lib.hid SS
          obtain ⟨s1, s2⟩ := s
          simp only at SB
          have t1 : ((x.natAbs : Int) == 1) = decide (x.natAbs = 1) := by
            rw [show ((x.natAbs : Int) == 1) = decide ((x.natAbs : Int) = 1) from rfl]
            exact decide_eq_decide.2 (by omega)
          first | rw [decide_eq_true h1'] at t1 | rw [decide_eq_false h1'] at t1
          clear h1'
          generalize (x.natAbs : Int) = z at *
          go_wp2_with fail
          refine CC.out.mono ?_
          rintro e w4 ⟨rfl, rfl⟩
          go_wp2_with fail
          exact ⟨⟨k + 1, _, by omega, by go_num, rfl, rfl, SS.out.symm⟩, by simp [intOf]; omega⟩
    · have h1 : (ws.length : Int) ≤ k := by omega
      obtain rfl : k = ws.length := by omega
      have HE2 : Hid (s = sumW ws) := by show _ = _; rw [HE.out, List.take_length]
      go_wp2_with fail
      exact bodyPost_ret (v := .tuple #[.int .i64 s.1, .int .i64 s.2, .bool true]) (by simp [results, Tryz.results20, go_sem]) rfl ⟨by rw [← HE2.out], X3.out⟩
theorem both_SumsOfPair (s t : ByteArray) : ∃ (x y : Int) (b : Bool),
    (∀ w, Calls Tryz.prog 20 #[.agg #[.string s, .string t]] w fun e w' => e = .returned (.tuple #[.int .i64 x, .int .i64 y, .bool b]) ∧ Ext w w') ∧
    (∀ w, Calls Tryz.prog 19 #[.agg #[.string s, .string t]] w fun e w' => e = .returned (.tuple #[.int .i64 x, .int .i64 y, .bool b]) ∧ Ext w w') := by
  by_cases h : Good s t
  · obtain ⟨A, B, rfl, rfl, h1, h2⟩ := h
    exact ⟨_, _, _, specSums_yes A B h1 h2, implSums_yes A B h1 h2⟩
  · exact ⟨_, _, _, specSums_no s t h, implSums_no s t h⟩
end Go.Proofs.YtpmmajfdcicjiaaGreat.N
