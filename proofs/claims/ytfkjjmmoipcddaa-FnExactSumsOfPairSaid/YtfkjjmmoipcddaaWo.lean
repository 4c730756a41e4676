import Derived.Test.YtfkjjmmoipcddaaBa
import Derived.Test.YtfkjjmmoipcddaaPu
import Derived.Test.YtfkjjmmoipcddaaSl
import Derived.Test.YtfkjjmmoipcddaaProg
import Derived.Test.YtfkjjmmoipcddaaTs
import Derived.Test.YtfkjjmmoipcddaaTn
import Derived.Test.YtfkjjmmoipcddaaWl
import Derived.Test.YtfkjjmmoipcddaaT3
import Derived.Test.YtfkjjmmoipcddaaTp
import Derived.Test.YtfkjjmmoipcddaaTr
import Derived.Test.YtfkjjmmoipcddaaTu
import Derived.Test.YtfkjjmmoipcddaaPw
import Derived.Test.YtfkjjmmoipcddaaLa
import Derived.Test.YtfkjjmmoipcddaaCl
import Derived.Test.YtfkjjmmoipcddaaVv
import Derived.Test.YtfkjjmmoipcddaaKv
import Derived.Test.YtfkjjmmoipcddaaRh
import Derived.Test.YtfkjjmmoipcddaaWs
import Derived.Deep.LoopGhost
import Derived.Deep.RegionHeld3
import Derived.Deep.QuietTactic
/- Words of pairs and their sums: the program's functions. -/
namespace Go.Proofs.Ytfkjjmmoipcddaa.N
open Go.RowKit
set_option linter.unusedVariables false
set_option linter.unusedSimpArgs false

set_option maxHeartbeats 3200000 in
set_option maxRecDepth 100000 in
theorem wordOfPair_calls (A B : Tr) (hA : A.carets ≤ 100) (hB : B.carets ≤ 100) (pa pb : Option Addr) (w : World) (ra : Rep w A pa) (rb : Rep w B pb) :
    Calls Try.prog 94 #[.agg #[.pointer pa, .pointer pb]] w fun e w' => ∃ u, e = .returned u ∧ Own w' w.heap.size 3 u (ints (wordP (A, B))) ∧ Ext w w' := by
  have X0 := Lib.hid ((Ext.refl w).alloc (.cells #[.pointer pa, .pointer pb] 78))
  obtain ⟨c0, c1⟩ := cells_of (heap_alloc_new w (.cells #[.pointer pa, .pointer pb] 78))
  have C1 := Lib.hid (fun W (h : Ext w W) => exponents_calls A (by omega) pa W (ra.ext h))
  have C2 := Lib.hid (fun W (h : Ext w W) => exponents_calls B (by omega) pb W (rb.ext h))
  have W1 := Lib.hid (fun v W => wordOf_calls (expT A) A.carets (expT_le A) (by omega) (by rw [expT_length]; omega) v W)
  have W2 := Lib.hid (fun v W => wordOf_calls (expT B) B.carets (expT_le B) (by omega) (by rw [expT_length]; omega) v W)
  have l1 := wordL_length A
  have l2 := wordL_length B
  have m1 : A.carets * (A.carets + 1) ≤ 100 * 101 := Nat.mul_le_mul hA (by omega)
  have m2 : B.carets * (B.carets + 1) ≤ 100 * 101 := Nat.mul_le_mul hB (by omega)
  have I1 := Lib.hid (fun v W => inverseOf_calls (wordL (expT B)) (by omega) (fun x hx => by have := wordT_mem _ _ x hx; rw [expT_length] at this; omega) v W)
  have L : Hid (((ints (wordL (expT A))).length + (ints (invL (wordL (expT B)))).length) * 8 ≤ 140737488355328) := by show _ ≤ _; rw [ints_length, ints_length, invL_length]; omega
  have E : Hid (ints (wordL (expT A)) ++ ints (invL (wordL (expT B))) = ints (wordP (A, B))) := by show _ = _; rw [ints_append]; rfl
  generalize invL (wordL (expT B)) = LI at *
  generalize wordL (expT A) = LA at *
  generalize wordL (expT B) = LB at *
  generalize expT A = EA at *
  generalize expT B = EB at *
  generalize wordP (A, B) = LP at *
  clear ra rb hA hB l1 l2 m1 m2
  go_enter Try.func94, Try.ntmps94
  go_wp2_with fail
  generalize w.alloc (.cells #[.pointer pa, .pointer pb] 78) = W at *
  go_region_held3 (fun w' => w'.cell? ⟨w.heap.size, 0, none⟩ = some (.pointer pa) ∧ w'.cell? ⟨w.heap.size, 1, none⟩ = some (.pointer pb) ∧ Ext W w')
    (first | with_reducible exact two_cells c0 c1 (Ext.refl _).drew | with_reducible exact two_cells c0 c1 x6 | with_reducible exact two_cells c0 c1 x5 | with_reducible exact two_cells c0 c1 x4 | with_reducible exact two_cells c0 c1 x3 | with_reducible exact two_cells c0 c1 x2 | with_reducible exact two_cells c0 c1 x1 | fail)
    (first
      | (go_at_call_of 140 (Value.pointer pa); refine (C1.out _ (X0.out.trans (Ext.refl _).drew)).mono ?_; rintro e w1 ⟨v1, rfl, o1, hx1⟩; have x1 : Ext W w1 := (Ext.refl W).drew.trans hx1)
      | (go_at_call_of 139 v1; refine (W1.out v1 _ o1.reads).mono ?_; rintro e w2 ⟨v2, rfl, o2, hx2⟩; have x2 := x1.trans hx2; have o2 := o2.mono x1.size)
      | (go_at_call_of 140 (Value.pointer pb); refine (C2.out _ (X0.out.trans x2)).mono ?_; rintro e w3 ⟨v3, rfl, o3, hx3⟩; have x3 := x2.trans hx3)
      | (go_at_call_of 139 v3; refine (W2.out v3 _ o3.reads).mono ?_; rintro e w4 ⟨v4, rfl, o4, hx4⟩; have x4 := x3.trans hx4)
      | (go_at_call 141; refine (I1.out v4 _ o4.reads).mono ?_; rintro e w5 ⟨v5, rfl, o5, hx5⟩; have x5 := x4.trans hx5)
      | (refine step_app (by rfl) (.tmp 6) (.tmp 11) 54 (by rfl) W.heap.size 3 (.int .i64 0) 8 Try.underlying54 infoInt rfl (by omega) _ _ (ints LA) (ints LI) (by rfl) (by rfl) (o2.ext (hx3.trans (hx4.trans hx5))) o5.reads (ints_one _) L.out x5.size ?_; intro v6 w6 o6 g6 _; have x6 := x5.grown g6 o2.lo)
      | fail)
  go_wp2_with fail
  go_ret
  rw [E.out] at o6
  exact ⟨_, rfl, o6.mono X0.out.size, X0.out.trans x6⟩

theorem sumS_pos {s : Int × Int} {x : Int} (h : ¬ x < 0) : sumS s x = if x.natAbs = 1 then (s.1 + 1, s.2) else (s.1, s.2 + 1) := by unfold sumS sg; rw [if_neg h]
theorem sumS_neg {s : Int × Int} {x : Int} (h : x < 0) : sumS s x = if x.natAbs = 1 then (s.1 + -1, s.2) else (s.1, s.2 + -1) := by unfold sumS sg; rw [if_pos h]
set_option maxHeartbeats 3200000 in
set_option maxRecDepth 100000 in
theorem sums_calls (ws : List Int) (hl : ws.length ≤ 1000000) (hs : ∀ x ∈ ws, -1000000 ≤ x ∧ x ≤ 1000000) (v : Value) (w : World) (hv : Reads w v (ints ws)) :
    Calls Try.prog 93 #[v] w fun e w' => e = .returned (.tuple #[.int .i64 (sumW ws).1, .int .i64 (sumW ws).2]) ∧ w = w' := by
  obtain ⟨A, c, rfl, h0n, rd⟩ := hv
  rw [ints_length] at *
  have RD := Lib.hid rd
  have HS := Lib.hid hs
  clear rd hs
  go_enter Try.func93, Try.ntmps93
  go_wp2_with fail
  go_loop [11, 4, 5] (fun i a b => ∃ (k : Nat) (s : Int × Int), k ≤ ws.length ∧ i = .int .i64 k ∧ a = .int .i64 s.1 ∧ b = .int .i64 s.2 ∧ Hid (s = sumW (ws.take k))) (fun i _ _ => ws.length - (intOf i).toNat)
  case atStart => exact ⟨0, (0, 0), Nat.zero_le _, rfl, rfl, rfl, rfl⟩
  case round =>
    obtain ⟨k, s, hk, rfl, rfl, rfl, HE⟩ := hrel
    have SB := sumW_bound ws k hk
    rw [← HE.out] at SB
    by_cases hlt : k < ws.length
    · obtain ⟨ad, rfl, ca⟩ := RD.out (by omega)
      have hx : ws[k]? = some ws[k] := List.getElem?_eq_getElem hlt
      have ST := Lib.hid (sumW_take ws k _ hx)
      have XB := HS.out _ (List.getElem_mem hlt)
      have c1 := ca k _ (ints_get ws k hlt)
      have h0 : (0 : Int) ≤ k := by omega
      have h1 : (k : Int) < ws.length := by omega
      clear ca hx
      generalize ws[k] = x at *
      have CC := Lib.hid (size_calls x XB w)
      by_cases hn : x < 0
      all_goals
        by_cases h1' : x.natAbs = 1
        all_goals
          have SS := ST.out
          rw [← HE.out] at SS
          first | rw [sumS_neg hn] at SS | rw [sumS_pos hn] at SS
          first | rw [if_pos h1'] at SS | rw [if_neg h1'] at SS
          have SS := Lib.hid SS
          obtain ⟨s1, s2⟩ := s
          simp only at SB
          have t1 : ((x.natAbs : Int) == 1) = decide (x.natAbs = 1) := by
            rw [show ((x.natAbs : Int) == 1) = decide ((x.natAbs : Int) = 1) from rfl]
            exact decide_eq_decide.2 (by omega)
          first | rw [decide_eq_true h1'] at t1 | rw [decide_eq_false h1'] at t1
          clear h1'
          generalize (x.natAbs : Int) = z at *
          go_wp2_with fail
          refine CC.out.mono ?_
          rintro e w1 ⟨rfl, rfl⟩
          go_wp2_with fail
          exact ⟨⟨k + 1, _, by omega, by go_num, rfl, rfl, SS.out.symm⟩, by simp [intOf]; omega⟩
    · have h1 : (ws.length : Int) ≤ k := by omega
      obtain rfl : k = ws.length := by omega
      have HE2 : Hid (s = sumW ws) := by show _ = _; rw [HE.out, List.take_length]
      go_wp2_with fail
      go_ret2
      exact ⟨by rw [← HE2.out]; rfl, rfl⟩

/-- What is told of the sums of a pair. -/
def SuV (s : Option (Int × Int)) : Value := match s with
  | none => .tuple #[.int .i64 0, .int .i64 0, .bool false]
  | some s => .tuple #[.int .i64 s.1, .int .i64 s.2, .bool true]
set_option maxHeartbeats 3200000 in
set_option maxRecDepth 100000 in
theorem implSums_no (s t : ByteArray) (h : ¬ Good s t) (w : World) :
    Calls Try.prog 39 #[.agg #[.string s, .string t]] w fun e w' => e = .returned (SuV none) ∧ Ext w w' := by
  have X0 := Lib.hid ((Ext.refl w).alloc (.cells #[.string s, .string t] 29))
  have C1 := Lib.hid (pairOf_no s t h)
  clear h
  show Calls _ _ _ _ (fun e w' => e = .returned (.tuple #[.int .i64 0, .int .i64 0, .bool false]) ∧ Ext w w')
  obtain ⟨c0, c1⟩ := cells_of (heap_alloc_new w (.cells #[.string s, .string t] 29))
  go_enter Try.func39, Try.ntmps39
  go_wp2_with fail
  generalize w.alloc (.cells #[.string s, .string t] 29) = W at *
  refine (C1.out _).mono ?_
  rintro e w1 ⟨pa, pb, rfl, x1⟩
  have X1 := Lib.hid (X0.out.trans (x1.alloc (.cells #[.pointer pa, .pointer pb] 78)))
  clear x1
  go_wp2_with fail
  exact bodyPost_ret (v := .tuple #[.int .i64 0, .int .i64 0, .bool false]) (by simp [results, Try.results39, go_sem]) rfl ⟨rfl, X1.out⟩
set_option maxHeartbeats 3200000 in
set_option maxRecDepth 100000 in
theorem implSums_yes (A B : Tr) (hc : A.carets = B.carets) (hB : B.carets ≤ 8) (w : World) :
    Calls Try.prog 39 #[.agg #[.string (tx A), .string (tx B)]] w fun e w' => e = .returned (SuV (some (sumW (wordP (red (A, B)))))) ∧ Ext w w' := by
  have X0 := Lib.hid ((Ext.refl w).alloc (.cells #[.string (tx A), .string (tx B)] 29))
  have C1 := Lib.hid (fun W => pairOf_yes A B hc hB W)
  have C2 := Lib.hid (fun pa pb W => reduced_calls A B (by omega) (by omega) pa pb W)
  have hs := red_same (p := (A, B)) hc
  have hle := (red_le (A, B)).2
  have C3 := Lib.hid (fun pa pb W => wordOfPair_calls (red (A, B)).1 (red (A, B)).2 (by simp only at hle; omega) (by simp only at hle; omega) pa pb W)
  have wl := wordP_length (red (A, B))
  have m1 : (red (A, B)).1.carets * ((red (A, B)).1.carets + 1) ≤ 8 * 9 := Nat.mul_le_mul (by simp only at hle; omega) (by simp only at hle; omega)
  have m2 : (red (A, B)).2.carets * ((red (A, B)).2.carets + 1) ≤ 8 * 9 := Nat.mul_le_mul (by simp only at hle; omega) (by simp only at hle; omega)
  have C4 := Lib.hid (fun v W => sums_calls (wordP (red (A, B))) (by omega) (fun x hx => by have := wordP_mem hx; simp only at hle; omega) v W)
  change Hid (∀ pa pb W, Rep _ _ _ → Rep _ _ _ → Calls _ _ _ _ fun e w' => ∃ u, e = .returned u ∧ Own w' W.heap.size 3 u (ints (wordP (red (A, B)))) ∧ Ext W w') at C3
  show Calls _ _ _ _ (fun e w' => e = .returned (.tuple #[.int .i64 (sumW (wordP (red (A, B)))).1, .int .i64 (sumW (wordP (red (A, B)))).2, .bool true]) ∧ Ext w w')
  generalize sumW (wordP (red (A, B))) = Q at *
  generalize wordP (red (A, B)) = V at *
  generalize (red (A, B)).1 = R1 at *
  generalize (red (A, B)).2 = R2 at *
  generalize tx A = a at *
  generalize tx B = b at *
  clear hc hB hs hle wl m1 m2
  obtain ⟨c0, c1⟩ := cells_of (heap_alloc_new w (.cells #[.string a, .string b] 29))
  obtain ⟨q1, q2⟩ := Q
  go_enter Try.func39, Try.ntmps39
  go_wp2_with fail
  generalize w.alloc (.cells #[.string a, .string b] 29) = W at *
  refine (C1.out _).mono ?_
  rintro e w1 ⟨pa, pb, rfl, rA, rB, x1⟩
  have xa := (Ext.refl w1).alloc (.cells #[.pointer pa, .pointer pb] 78)
  have R := Lib.hid (And.intro (rA.ext xa) (rB.ext xa))
  have X1 := Lib.hid (X0.out.trans (x1.trans xa))
  obtain ⟨c0, c1⟩ := cells_of (heap_alloc_new w1 (.cells #[.pointer pa, .pointer pb] 78))
  clear rA rB x1 xa
  go_wp2_with fail
  generalize w1.alloc (.cells #[.pointer pa, .pointer pb] 78) = W1 at *
  refine (C2.out pa pb _ R.out.1 R.out.2).mono ?_
  rintro e w2 ⟨p1, p2, rfl, r1, r2, x2⟩
  have X2 := Lib.hid (X1.out.trans x2)
  have R2 := Lib.hid (And.intro r1 r2)
  clear x2 r1 r2
  go_wp2_with fail
  refine (C3.out _ _ _ R2.out.1 R2.out.2).mono ?_
  rintro e w3 ⟨u, rfl, o3, x3⟩
  have X3 := Lib.hid (X2.out.trans x3)
  have R3 := Lib.hid o3.reads
  clear x3 o3
  go_wp2_with fail
  refine (C4.out _ _ R3.out).mono ?_
  rintro e w4 ⟨rfl, rfl⟩
  go_wp2_with fail
  exact bodyPost_ret (v := .tuple #[.int .i64 q1, .int .i64 q2, .bool true]) (by simp [results, Try.results39, go_sem]) rfl ⟨rfl, X3.out⟩
end Go.Proofs.Ytfkjjmmoipcddaa.N
