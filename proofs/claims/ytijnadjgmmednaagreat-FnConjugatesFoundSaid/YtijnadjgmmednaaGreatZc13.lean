import Derived.Test.YtijnadjgmmednaaGreatZc9
import Derived.Test.YtijnadjgmmednaaGreatZc11
/- A part of the proof: lemmas that later parts use. -/
set_option linter.unusedVariables false
set_option linter.unusedSimpArgs false
namespace Go.Proofs.YtijnadjgmmednaaGreat.N
open Go.RowKit
set_option maxHeartbeats 3200000 in
set_option maxRecDepth 100000 in
theorem wordOfPair_calls (A B : Tr) (hA : A.carets ≤ 100) (hB : B.carets ≤ 100) (pa pb : Option Addr) (w : World) (ra : Rep w A pa) (rb : Rep w B pb) :
    Calls Tryz.prog 43 #[.agg #[.pointer pa, .pointer pb]] w fun e w' => ∃ u, e = .returned u ∧ Own w' w.heap.size 3 u (ints (wordP (A, B))) ∧ Ext w w' := by
  have X0 := Lib.hid ((Ext.refl w).alloc (.cells #[.pointer pa, .pointer pb] 62))
  obtain ⟨c0, c1⟩ := cells_of (heap_alloc_new w (.cells #[.pointer pa, .pointer pb] 62))
  have C1 := Lib.hid (fun W (h : Ext w W) => exponents_calls A (by omega) pa W (ra.ext h))
  have C2 := Lib.hid (fun W (h : Ext w W) => exponents_calls B (by omega) pb W (rb.ext h))
  have W1 := Lib.hid (fun v W => wordOf_calls (expT A) A.carets (expT_le A) (by omega) (by rw [expT_length]; omega) v W)
  have W2 := Lib.hid (fun v W => wordOf_calls (expT B) B.carets (expT_le B) (by omega) (by rw [expT_length]; omega) v W)
  have l1 := wordL_length A
  have l2 := wordL_length B
  have m1 : A.carets * (A.carets + 1) ≤ 100 * 101 := Nat.mul_le_mul hA (by omega)
  have m2 : B.carets * (B.carets + 1) ≤ 100 * 101 := Nat.mul_le_mul hB (by omega)
  have I1 := Lib.hid (fun v W => inverseOf_calls (wordL (expT B)) (by omega) (fun x hx => by have := wordT_mem _ _ x hx; rw [expT_length] at this; omega) v W)
  have L : Hid (((ints (wordL (expT A))).length + (ints (invL (wordL (expT B)))).length) * 8 ≤ 140737488355328) := by show _ ≤ _; rw [ints_length, ints_length, invL_length]; omega
  have E : Hid (ints (wordL (expT A)) ++ ints (invL (wordL (expT B))) = ints (wordP (A, B))) := by show _ = _; rw [ints_append]; rfl
  generalize invL (wordL (expT B)) = LI at *
  generalize wordL (expT A) = LA at *
  generalize wordL (expT B) = LB at *
  generalize expT A = EA at *
  generalize expT B = EB at *
  generalize wordP (A, B) = LP at *
  clear ra rb hA hB l1 l2 m1 m2
  go_enter Tryz.func43, Tryz.ntmps43
  go_wp2_with fail
  generalize w.alloc (.cells #[.pointer pa, .pointer pb] 62) = W at *
  go_region_held3 (fun w' => w'.cell? ⟨w.heap.size, 0, none⟩ = some (.pointer pa) ∧ w'.cell? ⟨w.heap.size, 1, none⟩ = some (.pointer pb) ∧ Ext W w')
    (first | with_reducible exact two_cells c0 c1 (Ext.refl _).drew | with_reducible exact two_cells c0 c1 x6 | with_reducible exact two_cells c0 c1 x5 | with_reducible exact two_cells c0 c1 x4 | with_reducible exact two_cells c0 c1 x3 | with_reducible exact two_cells c0 c1 x2 | with_reducible exact two_cells c0 c1 x1 | fail)
    (first
      | (go_at_call_of 79 (Value.pointer pa); refine (C1.out _ (X0.out.trans (Ext.refl _).drew)).mono ?_; rintro e w1 ⟨v1, rfl, o1, hx1⟩; have x1 : Ext W w1 := (Ext.refl W).drew.trans hx1)
      | (go_at_call_of 78 v1; refine (W1.out v1 _ o1.reads).mono ?_; rintro e w2 ⟨v2, rfl, o2, hx2⟩; have x2 := x1.trans hx2; have o2 := o2.mono x1.size)
      | (go_at_call_of 79 (Value.pointer pb); refine (C2.out _ (X0.out.trans x2)).mono ?_; rintro e w3 ⟨v3, rfl, o3, hx3⟩; have x3 := x2.trans hx3)
      | (go_at_call_of 78 v3; refine (W2.out v3 _ o3.reads).mono ?_; rintro e w4 ⟨v4, rfl, o4, hx4⟩; have x4 := x3.trans hx4)
      | (go_at_call 80; refine (I1.out v4 _ o4.reads).mono ?_; rintro e w5 ⟨v5, rfl, o5, hx5⟩; have x5 := x4.trans hx5)
      | (refine step_app (by rfl) (.tmp 6) (.tmp 11) 28 (by rfl) W.heap.size 3 (.int .i64 0) 8 Tryz.underlying28 infoInt rfl (by omega) _ _ (ints LA) (ints LI) (by rfl) (by rfl) (o2.ext (hx3.trans (hx4.trans hx5))) o5.reads (ints_one _) L.out x5.size ?_; intro v6 w6 o6 g6 _; have x6 := x5.grown g6 o2.lo)
      | fail)
  go_wp2_with fail
  go_ret
  rw [E.out] at o6
  exact ⟨_, rfl, o6.mono X0.out.size, X0.out.trans x6⟩
theorem sumS_pos {s : Int × Int} {x : Int} (h : ¬ x < 0) : sumS s x = if x.natAbs = 1 then (s.1 + 1, s.2) else (s.1, s.2 + 1) := by unfold sumS sg; rw [if_neg h]
theorem sumS_neg {s : Int × Int} {x : Int} (h : x < 0) : sumS s x = if x.natAbs = 1 then (s.1 + -1, s.2) else (s.1, s.2 + -1) := by unfold sumS sg; rw [if_pos h]
set_option maxHeartbeats 3200000 in
set_option maxRecDepth 100000 in
theorem sums_calls (ws : List Int) (hl : ws.length ≤ 1000000) (hs : ∀ x ∈ ws, -1000000 ≤ x ∧ x ≤ 1000000) (v : Value) (w : World) (hv : Reads w v (ints ws)) :
    Calls Tryz.prog 42 #[v] w fun e w' => e = .returned (.tuple #[.int .i64 (sumW ws).1, .int .i64 (sumW ws).2]) ∧ w = w' := by
  obtain ⟨A, c, rfl, h0n, rd⟩ := hv
  rw [ints_length] at *
  have RD := Lib.hid rd
  have HS := Lib.hid hs
  clear rd hs
  go_enter Tryz.func42, Tryz.ntmps42
  go_wp2_with fail
  go_loop [11, 4, 5] (fun i a b => ∃ (k : Nat) (s : Int × Int), k ≤ ws.length ∧ i = .int .i64 k ∧ a = .int .i64 s.1 ∧ b = .int .i64 s.2 ∧ Hid (s = sumW (ws.take k))) (fun i _ _ => ws.length - (intOf i).toNat)
  case atStart => exact ⟨0, (0, 0), Nat.zero_le _, rfl, rfl, rfl, rfl⟩
  case round =>
    obtain ⟨k, s, hk, rfl, rfl, rfl, HE⟩ := hrel
    have SB := sumW_bound ws k hk
    rw [← HE.out] at SB
    by_cases hlt : k < ws.length
    · obtain ⟨ad, rfl, ca⟩ := RD.out (by omega)
      have hx : ws[k]? = some ws[k] := List.getElem?_eq_getElem hlt
      have ST := Lib.hid (sumW_take ws k _ hx)
      have XB := HS.out _ (List.getElem_mem hlt)
      have c1 := ca k _ (ints_get ws k hlt)
      have h0 : (0 : Int) ≤ k := by omega
      have h1 : (k : Int) < ws.length := by omega
      clear ca hx
      generalize ws[k] = x at *
      have CC := Lib.hid (size_calls x XB w)
      by_cases hn : x < 0
      all_goals
        by_cases h1' : x.natAbs = 1
        all_goals
          have SS := ST.out
          rw [← HE.out] at SS
          first | rw [sumS_neg hn] at SS | rw [sumS_pos hn] at SS
          first | rw [if_pos h1'] at SS | rw [if_neg h1'] at SS
          have SS := Lib.hid SS
          obtain ⟨s1, s2⟩ := s
          simp only at SB
          have t1 : ((x.natAbs : Int) == 1) = decide (x.natAbs = 1) := by
            rw [show ((x.natAbs : Int) == 1) = decide ((x.natAbs : Int) = 1) from rfl]
            exact decide_eq_decide.2 (by omega)
          first | rw [decide_eq_true h1'] at t1 | rw [decide_eq_false h1'] at t1
          clear h1'
          generalize (x.natAbs : Int) = z at *
          go_wp2_with fail
          refine CC.out.mono ?_
          rintro e w1 ⟨rfl, rfl⟩
          go_wp2_with fail
          exact ⟨⟨k + 1, _, by omega, by go_num, rfl, rfl, SS.out.symm⟩, by simp [intOf]; omega⟩
    · have h1 : (ws.length : Int) ≤ k := by omega
      obtain rfl : k = ws.length := by omega
      have HE2 : Hid (s = sumW ws) := by show _ = _; rw [HE.out, List.take_length]
      go_wp2_with fail
      go_ret2
      exact ⟨by rw [← HE2.out]; rfl, rfl⟩
def SuV (s : Option (Int × Int)) : Value := match s with
  | none => .tuple #[.int .i64 0, .int .i64 0, .bool false]
  | some s => .tuple #[.int .i64 s.1, .int .i64 s.2, .bool true]
set_option maxHeartbeats 3200000 in
set_option maxRecDepth 100000 in
theorem implSums_no (s t : ByteArray) (h : ¬ Good s t) (w : World) :
    Calls Tryz.prog 13 #[.agg #[.string s, .string t]] w fun e w' => e = .returned (SuV none) ∧ Ext w w' := by
  have X0 := Lib.hid ((Ext.refl w).alloc (.cells #[.string s, .string t] 25))
  have C1 := Lib.hid (pairOf_no s t h)
  clear h
  show Calls _ _ _ _ (fun e w' => e = .returned (.tuple #[.int .i64 0, .int .i64 0, .bool false]) ∧ Ext w w')
  obtain ⟨c0, c1⟩ := cells_of (heap_alloc_new w (.cells #[.string s, .string t] 25))
  go_enter Tryz.func13, Tryz.ntmps13
  go_wp2_with fail
  generalize w.alloc (.cells #[.string s, .string t] 25) = W at *
  refine (C1.out _).mono ?_
  rintro e w1 ⟨pa, pb, rfl, x1⟩
  have X1 := Lib.hid (X0.out.trans (x1.alloc (.cells #[.pointer pa, .pointer pb] 62)))
  clear x1
  go_wp2_with fail
  exact bodyPost_ret (v := .tuple #[.int .i64 0, .int .i64 0, .bool false]) (by simp [results, Tryz.results13, go_sem]) rfl ⟨rfl, X1.out⟩
set_option maxHeartbeats 3200000 in
set_option maxRecDepth 100000 in
theorem implSums_yes (A B : Tr) (hc : A.carets = B.carets) (hB : B.carets ≤ 8) (w : World) :
    Calls Tryz.prog 13 #[.agg #[.string (tx A), .string (tx B)]] w fun e w' => e = .returned (SuV (some (sumW (wordP (red (A, B)))))) ∧ Ext w w' := by
  have X0 := Lib.hid ((Ext.refl w).alloc (.cells #[.string (tx A), .string (tx B)] 25))
  have C1 := Lib.hid (fun W => pairOf_yes A B hc hB W)
  have C2 := Lib.hid (fun pa pb W => reduced_calls A B (by omega) (by omega) pa pb W)
  have hs := red_same (p := (A, B)) hc
  have hle := (red_le (A, B)).2
  have C3 := Lib.hid (fun pa pb W => wordOfPair_calls (red (A, B)).1 (red (A, B)).2 (by simp only at hle; omega) (by simp only at hle; omega) pa pb W)
  have wl := wordP_length (red (A, B))
  have m1 : (red (A, B)).1.carets * ((red (A, B)).1.carets + 1) ≤ 8 * 9 := Nat.mul_le_mul (by simp only at hle; omega) (by simp only at hle; omega)
  have m2 : (red (A, B)).2.carets * ((red (A, B)).2.carets + 1) ≤ 8 * 9 := Nat.mul_le_mul (by simp only at hle; omega) (by simp only at hle; omega)
  have C4 := Lib.hid (fun v W => sums_calls (wordP (red (A, B))) (by omega) (fun x hx => by have := wordP_mem hx; simp only at hle; omega) v W)
  change Hid (∀ pa pb W, Rep _ _ _ → Rep _ _ _ → Calls _ _ _ _ fun e w' => ∃ u, e = .returned u ∧ Own w' W.heap.size 3 u (ints (wordP (red (A, B)))) ∧ Ext W w') at C3
  show Calls _ _ _ _ (fun e w' => e = .returned (.tuple #[.int .i64 (sumW (wordP (red (A, B)))).1, .int .i64 (sumW (wordP (red (A, B)))).2, .bool true]) ∧ Ext w w')
  generalize sumW (wordP (red (A, B))) = Q at *
  generalize wordP (red (A, B)) = V at *
  generalize (red (A, B)).1 = R1 at *
  generalize (red (A, B)).2 = R2 at *
  generalize tx A = a at *
  generalize tx B = b at *
  clear hc hB hs hle wl m1 m2
  obtain ⟨c0, c1⟩ := cells_of (heap_alloc_new w (.cells #[.string a, .string b] 25))
  obtain ⟨q1, q2⟩ := Q
  go_enter Tryz.func13, Tryz.ntmps13
  go_wp2_with fail
  generalize w.alloc (.cells #[.string a, .string b] 25) = W at *
  refine (C1.out _).mono ?_
  rintro e w1 ⟨pa, pb, rfl, rA, rB, x1⟩
  have xa := (Ext.refl w1).alloc (.cells #[.pointer pa, .pointer pb] 62)
  have R := Lib.hid (And.intro (rA.ext xa) (rB.ext xa))
  have X1 := Lib.hid (X0.out.trans (x1.trans xa))
  obtain ⟨c0, c1⟩ := cells_of (heap_alloc_new w1 (.cells #[.pointer pa, .pointer pb] 62))
  clear rA rB x1 xa
  go_wp2_with fail
  generalize w1.alloc (.cells #[.pointer pa, .pointer pb] 62) = W1 at *
  refine (C2.out pa pb _ R.out.1 R.out.2).mono ?_
  rintro e w2 ⟨p1, p2, rfl, r1, r2, x2⟩
  have X2 := Lib.hid (X1.out.trans x2)
  have R2 := Lib.hid (And.intro r1 r2)
  clear x2 r1 r2
  go_wp2_with fail
  refine (C3.out _ _ _ R2.out.1 R2.out.2).mono ?_
  rintro e w3 ⟨u, rfl, o3, x3⟩
  have X3 := Lib.hid (X2.out.trans x3)
  have R3 := Lib.hid o3.reads
  clear x3 o3
  go_wp2_with fail
  refine (C4.out _ _ R3.out).mono ?_
  rintro e w4 ⟨rfl, rfl⟩
  go_wp2_with fail
  exact bodyPost_ret (v := .tuple #[.int .i64 q1, .int .i64 q2, .bool true]) (by simp [results, Tryz.results13, go_sem]) rfl ⟨rfl, X3.out⟩
end Go.Proofs.YtijnadjgmmednaaGreat.N
namespace Go.Proofs.YtijnadjgmmednaaGreat.N
open Go.RowKit
set_option maxHeartbeats 6400000 in
set_option maxRecDepth 100000 in
theorem implLC_yes (A B : Tr) (hc : A.carets = B.carets) (hB : B.carets ≤ 8) (m : Nat) (hm : m ≤ 4) (w : World) :
    Calls Tryz.prog 22 #[.agg #[.string (tx A), .string (tx B)], .int .i64 m] w fun e w' => e = .returned (pb (tx (leastA (A, B) (m + 1)).1) (tx (leastA (A, B) (m + 1)).2) true) ∧ Ext w w' := by
  obtain ⟨X2, _, t1, _⟩ := boxP_facts w (tx A) (tx B)
  have X2 := Lib.hid X2
  have C1 := Lib.hid (fun W => pairOf_yes A B hc hB W)
  have C0 := Lib.hid (fun W => isMost_calls m W)
  rw [decide_eq_true (show (0 : Int) ≤ m ∧ (m : Int) ≤ 4 by omega)] at C0
  have C2 := Lib.hid (fun pa pb W => reduced_calls A B (by omega) (by omega) pa pb W)
  have hs : Hid ((red (A, B)).1.carets = (red (A, B)).2.carets ∧ (red (A, B)).2.carets ≤ 8) := ⟨red_same (p := (A, B)) hc, by have := (red_le (A, B)).2; simp only at this; omega⟩
  have HL : Hid (∀ k, leastA (A, B) (k + 1) = (runW gL k [] (red (A, B)) (leastA (A, B) k)).1) := fun k => by rw [runW_least]; rfl
  have H0 : Hid (leastA (A, B) 0 = red (A, B)) := rfl
  have HF : Hid (∀ k s, (runW gL k [] (red (A, B)) s).2 = false) := fun k s => by rw [runW_least]
  have hm' : (m : Int) ≤ 4 := by omega
  generalize leastA (A, B) = L at *
  generalize hp : red (A, B) = p0 at *
  generalize tx A = a at *
  generalize tx B = b at *
  clear hc hB hp
  go_enter Tryz.func22, Tryz.ntmps22
  go_wp2_with fail
  generalize (w.alloc (.cells #[.string a, .string b] 25)).alloc (.cells #[.string ⟨#[]⟩, .string ⟨#[]⟩] 25) = W at *
  refine (C1.out _).mono ?_
  rintro e w1 ⟨p1, p2, rfl, rA, rB, x1⟩
  have xa := (Ext.refl w1).alloc (.cells #[.pointer p1, .pointer p2] 62)
  have RA := Lib.hid (rA.ext xa)
  have RB := Lib.hid (rB.ext xa)
  have X1 := Lib.hid (X2.out.trans (x1.trans xa))
  have T1 := Lib.hid (t1.ext (x1.trans xa))
  have B5 := Lib.hid (heap_alloc_new w1 (.cells #[.pointer p1, .pointer p2] 62))
  have G5 := Lib.hid (X2.out.trans x1).size
  obtain ⟨d0, d1⟩ := cells_of B5.out
  clear rA rB t1 x1 xa
  go_wp2_with fail
  generalize w1.alloc (.cells #[.pointer p1, .pointer p2] 62) = W1 at *
  refine (C0.out _).mono ?_
  rintro e w2 ⟨rfl, rfl⟩
  go_wp2_with fail
  refine (C2.out p1 p2 _ RA.out RB.out).mono ?_
  rintro e w2 ⟨q1, q2, rfl, r1, r2, x2⟩
  have lt1 := (Array.getElem?_eq_some_iff.1 B5.out).1
  have lt2 := T1.out.lt
  have lt3 := x2.size
  have lt4 := X1.out.size
  have xb := (Ext.refl w2).alloc (.cells #[.pointer q1, .pointer q2] 62)
  have xx := x2.trans xb
  have X3 := Lib.hid (X1.out.trans xx)
  have T1 := Lib.hid (T1.out.ext xx)
  have B5 := Lib.hid (xx.at B5.out)
  have RA := Lib.hid (RA.out.ext xx)
  have RB := Lib.hid (RB.out.ext xx)
  have I3 : Hid (IL w2.heap.size p0 (w2.alloc (.cells #[.pointer q1, .pointer q2] 62))) := ⟨by have := hs.out; omega, by have := hs.out; omega, q1, q2, heap_alloc_new w2 _, r1.ext xb, r2.ext xb⟩
  have CS : Hid (w2.heap.size < (w2.alloc (.cells #[.pointer q1, .pointer q2] 62)).heap.size ∧ w.heap.size ≤ w2.heap.size ∧ w1.heap.size ≠ w2.heap.size ∧ w.heap.size + 1 ≠ w2.heap.size) := ⟨by simp, by omega, by omega, by omega⟩
  clear d0 d1 x2 r1 r2 xb xx X1 lt1 lt2 lt3 lt4
  generalize hcc : w2.heap.size = c at *
  have CB : Hid (∀ b0, c < b0 → Cb b0 c 58 #[.pointer (some ⟨c, 0, none⟩)] gL (IL c) (fun _ => True)) := fun b0 h => least_isCb b0 c h
  go_wp2_with fail
  generalize w2.alloc (.cells #[.pointer q1, .pointer q2] 62) = W2 at *
  go_loopw [27] (fun i wr => ∃ k : Nat, k ≤ m + 1 ∧ i = .int .i64 k ∧ Hid (IL c (L k) wr) ∧ Hid (wr.heap[w1.heap.size]? = some (.cells #[.pointer p1, .pointer p2] 62)) ∧ Hid (Two wr (w.heap.size + 1) 25) ∧ Hid (Rep wr A p1) ∧ Hid (Rep wr B p2) ∧ Hid (Ext w wr) ∧ Hid (c < wr.heap.size)) (fun i _ => m + 1 - (intOf i).toNat)
  case atStart => exact ⟨0, by omega, rfl, by rw [H0.out]; exact I3.out, B5.out, T1.out, RA.out, RB.out, X3.out, CS.out.1⟩
  case round =>
    obtain ⟨k, hk, rfl, HI, HB, HT, HRA, HRB, HX, HC⟩ := hrel
    obtain ⟨d0, d1⟩ := cells_of HB.out
    by_cases hlt : k < m + 1
    · have h0 : (0 : Int) ≤ k := by omega
      have h1 : (k : Int) < m + 1 := by omega
      go_wp2_with fail
      refine (C2.out p1 p2 _ HRA.out HRB.out).mono ?_
      rintro e w5 ⟨z1, z2, rfl, rz1, rz2, x5⟩
      have I5 := HI.out.ext x5
      have T5 := HT.out.ext x5
      have B5 := x5.at HB.out
      have R1 := HRA.out.ext x5
      have R2 := HRB.out.ext x5
      have X5 := HX.out.trans x5
      have WC := Lib.hid (words_calls (CB.out w5.heap.size (Nat.lt_of_lt_of_le HC.out x5.size)) k [] p0 (L k) (.slice none 0 0) z1 z2 w5 (by omega) (by simp; omega) hs.out.1 (by have := hs.out; omega) trivial I5 (Own.nil _ _ _) (Nat.le_refl _) rz1 rz2)
      rw [HF.out, ← HL.out] at WC
      have PK : Hid (∀ w6, Tch c none w5 w6 → w6.heap[w1.heap.size]? = some (.cells #[.pointer p1, .pointer p2] 62) ∧ Two w6 (w.heap.size + 1) 25 ∧ Rep w6 A p1 ∧ Rep w6 B p2 ∧ Ext w w6 ∧ c < w6.heap.size) := by
        intro w6 t6
        have nn : NotNode w5 c := let ⟨_, _, pa, pb, h, _⟩ := I5; ⟨_, _, _, h, by decide⟩
        refine ⟨t6.at_ B5 CS.out.2.2.1 (by simp), ?_, R1.tch t6 nn (fun k hk => by cases hk), R2.tch t6 nn (fun k hk => by cases hk), t6.toExt X5 CS.out.2.1 (fun i hi => by cases hi), Nat.lt_of_lt_of_le (Nat.lt_of_lt_of_le HC.out x5.size) t6.size⟩
        obtain ⟨u, v, e⟩ := T5.at_
        exact ⟨u, v, t6.at_ e CS.out.2.2.2 (by simp)⟩
      clear d0 d1 x5 I5 T5 B5 R1 R2 X5 rz1 rz2
      go_wp2_with fail
      refine WC.out.mono ?_
      rintro e w6 ⟨rfl, i6, _, t6⟩
      have I6 := Lib.hid i6
      have P6 := Lib.hid (PK.out w6 t6)
      clear i6 t6
      go_wp2_with fail
      exact ⟨⟨k + 1, by omega, by go_num, I6.out, P6.out.1, P6.out.2.1, P6.out.2.2.1, P6.out.2.2.2.1, P6.out.2.2.2.2.1, P6.out.2.2.2.2.2⟩, by simp [intOf]; omega⟩
    · have h1 : (m : Int) + 1 ≤ k := by omega
      obtain rfl : k = m + 1 := by omega
      obtain ⟨s1, s2, za, zb, hz, rz1, rz2⟩ := HI.out
      obtain ⟨e0, e1⟩ := cells_of hz
      have CP := Lib.hid (plain_calls (L (m + 1)).1 (L (m + 1)).2 (by omega) (by omega) za zb wr rz1 rz2)
      obtain ⟨rc, hrc⟩ : ∃ rc, tx (L (m + 1)).1 = rc := ⟨_, rfl⟩
      obtain ⟨rd, hrd⟩ : ∃ rd, tx (L (m + 1)).2 = rd := ⟨_, rfl⟩
      rw [hrc, hrd] at CP
      have HRC := Lib.hid hrc
      have HRD := Lib.hid hrd
      clear hrc hrd
      clear s1 s2 hz rz1 rz2 d0 d1 HI
      go_wp2_with fail
      refine CP.out.mono ?_
      rintro e w5 ⟨rfl, x5⟩
      have T1 := HT.out.ext x5
      obtain ⟨u, v, k0, k1, f0, f1⟩ := T1.facts
      have T1 := Lib.hid T1
      have X5 := Lib.hid (HX.out.trans x5)
      clear x5 e0 e1
      go_wp2_with fail
      have HH := set2_heap T1.out (.string rc) (.string rd)
      have XX := X5.out.set2 (g := w.heap.size + 1) (by omega) (.string rc) (.string rd)
      change bodyPost _ _ _ _ _ (N.set2 w5 (w.heap.size + 1) (.string rc) (.string rd))
      obtain ⟨hc0, hc1⟩ := cells_of HH
      generalize N.set2 w5 (w.heap.size + 1) (.string rc) (.string rd) = W3 at *
      exact bodyPost_ret (v := .tuple #[.agg #[.string rc, .string rd], .bool true]) (by simp [results, Tryz.results22, go_sem, hc0, hc1]) rfl ⟨by rw [HRC.out, HRD.out]; rfl, XX⟩
end Go.Proofs.YtijnadjgmmednaaGreat.N
namespace Go.Proofs.YtijnadjgmmednaaGreat.N
open Go.RowKit
theorem pairW_carets : ∀ (n : Nat) (ws : List Int), ws.length = n → (∀ x ∈ ws, x ≠ 0 ∧ -2 ≤ x ∧ x ≤ 2) → (pairW ws).2.carets ≤ 3 * n := by
  intro n
  induction n with
  | zero => intro ws h _; obtain rfl := List.length_eq_zero_iff.1 h; exact Nat.le_refl _
  | succ n ih =>
    intro ws h hz
    obtain ⟨u, x, rfl⟩ : ∃ u x, ws = u ++ [x] := ⟨ws.dropLast, ws.getLast (by intro e; subst e; simp at h), (List.dropLast_concat_getLast _).symm⟩
    have hx := hz x (by simp)
    have hu : ∀ y ∈ u, y ≠ 0 ∧ -2 ≤ y ∧ y ≤ 2 := fun y hy => hz y (List.mem_append_left _ hy)
    have i := ih u (by simp at h; omega) hu
    have hb := pairW_bal (fun y hy => (hu y hy).1 : NZ u)
    have lc := letP_carets hx.1
    have mc := mul_carets (p := pairW u) (q := letP x) hb (letP_bal hx.1)
    rw [pairW_snoc]
    omega
set_option maxHeartbeats 3200000 in
set_option maxRecDepth 100000 in
theorem cjPair_calls (xs : List Int) (hl : xs.length ≤ 4) (hT : ∀ x ∈ xs, x ≠ 0 ∧ -2 ≤ x ∧ x ≤ 2) (v : Value) (w : World) (hv : Reads w v (ints xs)) :
    Calls Tryz.prog 62 #[v] w fun e w' => e = .returned (.agg #[.string (tx (pairW xs).1), .string (tx (pairW xs).2)]) ∧ Ext w w' := by
  have X2 := Lib.hid ((Ext.refl w).alloc (.cells #[.string ⟨#[]⟩, .string ⟨#[]⟩] 25))
  have t1 := Two.new w (.string ⟨#[]⟩) (.string ⟨#[]⟩) 25 rfl
  have V := Lib.hid hv
  have HT := Lib.hid hT
  have L1 := Lib.hid hl
  obtain ⟨AA, cc, rfl, _, _⟩ := hv
  rw [ints_length] at *
  have hl' : (xs.length : Int) ≤ 4 := by omega
  clear hT
  go_enter Tryz.func62, Tryz.ntmps62
  go_wp2_with fail
  generalize w.alloc (.cells #[.string ⟨#[]⟩, .string ⟨#[]⟩] 25) = W at *
  refine (prUnit_calls _).mono ?_
  rintro e w1 ⟨rfl, x1⟩
  have xb := x1.alloc (.cells #[.string (tx .leaf), .string (tx .leaf)] 25)
  have B3 := Lib.hid (heap_alloc_new w1 (.cells #[.string (tx .leaf), .string (tx .leaf)] 25))
  have X3 := Lib.hid (X2.out.trans xb)
  have T1 := Lib.hid (t1.ext xb)
  have NE : Hid (w.heap.size ≠ w1.heap.size ∧ w.heap.size ≤ w1.heap.size) := by have := t1.lt; have := x1.size; have := X2.out.size; exact ⟨by omega, by omega⟩
  clear t1 xb x1
  go_wp2_with fail
  generalize w1.alloc (.cells #[.string (tx .leaf), .string (tx .leaf)] 25) = W1 at *
  go_loopw [9] (fun i wr => ∃ j : Nat, j ≤ xs.length ∧ i = .int .i64 j ∧ Hid (wr.heap[w1.heap.size]? = some (.cells #[.string (tx (pairW (xs.take j)).1), .string (tx (pairW (xs.take j)).2)] 25)) ∧ Hid (Two wr w.heap.size 25) ∧ Hid (Ext w wr)) (fun i _ => xs.length - (intOf i).toNat)
  case atStart => exact ⟨0, Nat.zero_le _, rfl, B3.out, T1.out, X3.out⟩
  case round =>
    obtain ⟨j, hj, rfl, HB, HT1, HX⟩ := hrel
    obtain ⟨d0, d1⟩ := cells_of HB.out
    by_cases hlt : j < xs.length
    · have hx : xs[j]? = some xs[j] := List.getElem?_eq_getElem hlt
      obtain ⟨A1, c1, e1, _, rd⟩ := V.out.ext HX.out
      rw [ints_length] at *
      injection e1 with e1 _ e3
      subst e1 e3
      obtain ⟨ad, rfl, ca⟩ := rd (by omega)
      have c2 := ca j _ (ints_get xs j hlt)
      have h0 : (0 : Int) ≤ j := by omega
      have h1 : (j : Int) < xs.length := by omega
      have LT := HT.out _ (List.mem_of_getElem? hx)
      have TK : Hid (pairW (xs.take (j + 1)) = mul (pairW (xs.take j)) (letP xs[j])) := by show _ = _; rw [List.take_add_one, hx]; exact pairW_snoc _ _
      have HTk : ∀ y ∈ xs.take j, y ≠ 0 ∧ -2 ≤ y ∧ y ≤ 2 := fun y hy => HT.out y (List.mem_of_mem_take hy)
      have pc := pairW_carets _ (xs.take j) rfl HTk
      have pl : (xs.take j).length ≤ 4 := by rw [List.length_take]; omega
      have pbl := pairW_bal (fun y hy => (HTk y hy).1 : NZ (xs.take j))
      have lc := letP_carets LT.1
      have CL := Lib.hid (fun W => wdLetter_calls xs[j] ⟨LT.1, by omega, by omega⟩ W)
      have CC := Lib.hid (fun W => prTimes_calls (pairW (xs.take j)).1 (pairW (xs.take j)).2 (letP xs[j]).1 (letP xs[j]).2 pbl (letP_bal LT.1) (by omega) (by omega) W)
      rw [show ((letP xs[j]).1, (letP xs[j]).2) = letP xs[j] from rfl, show ((pairW (xs.take j)).1, (pairW (xs.take j)).2) = pairW (xs.take j) from rfl, ← TK.out] at CC
      generalize xs[j] = x at *
      generalize tx (letP x).1 = l1 at *
      generalize tx (letP x).2 = l2 at *
      clear rd ca hx LT pc pl lc pbl HTk
      have TB : Hid (Two wr w1.heap.size 25) := ⟨_, _, HB.out⟩
      generalize tx (pairW (xs.take j)).1 = sc at *
      generalize tx (pairW (xs.take j)).2 = sd at *
      obtain ⟨z1, hz1⟩ : ∃ z, z = tx (pairW (xs.take (j + 1))).1 := ⟨_, rfl⟩
      obtain ⟨z2, hz2⟩ : ∃ z, z = tx (pairW (xs.take (j + 1))).2 := ⟨_, rfl⟩
      rw [← hz1, ← hz2] at CC
      have HZ := Lib.hid (And.intro hz1 hz2)
      clear hz1 hz2
      go_wp2_with fail
      rw [show Op.load 25 (Operand.tmp 3) = shy (Op.load 25 (Operand.tmp 3)) from rfl]
      go_region_held3 (fun w' => Ext w w')
        (first | with_reducible exact HX.out.drew | with_reducible exact HX.out.trans x2 | with_reducible exact HX.out.trans x3 | exact (HX.out.trans x3).set2 (g := w1.heap.size) NE.out.2 _ _ | fail)
        (first
          | (go_at_call 55; refine (CL.out _).mono ?_; rintro e w5 ⟨rfl, hx2⟩; have x2 : Ext wr w5 := (Ext.refl wr).drew.trans hx2; have d0' := x2.cell d0; have d1' := x2.cell d1)
          | (go_at_call 70; refine (CC.out _).mono ?_; rintro e w6 ⟨rfl, hx3⟩; have x3 := x2.trans hx3; obtain ⟨u, v, k0, k1, f0, f1⟩ := (TB.out.ext x3).facts)
          | fail)
      all_goals
        have TX := TB.out.ext x3
        have HH := set2_heap TX (.string z1) (.string z2)
        rw [HZ.out.1, HZ.out.2] at HH
        have HH := Lib.hid HH
        have T1 := Lib.hid ((HT1.out.ext x3).far (g := w1.heap.size) NE.out.1 (.string z1) (.string z2))
        have XX := Lib.hid ((HX.out.trans x3).set2 (g := w1.heap.size) NE.out.2 (.string z1) (.string z2))
        change Exit.inBlock _ _ _ _ (N.set2 w6 w1.heap.size (.string z1) (.string z2))
        rw [HZ.out.1, HZ.out.2] at T1 XX ⊢
        clear k0 k1 f0 f1 TX x3 x2 hx2 hx3 d0' d1' d0 d1
        generalize N.set2 w6 w1.heap.size (.string (tx (pairW (xs.take (j + 1))).1)) (.string (tx (pairW (xs.take (j + 1))).2)) = w7 at *
        go_wp2_with fail
        exact ⟨⟨j + 1, by omega, by go_num, HH.out, T1.out, XX.out⟩, by simp [intOf]; omega⟩
    · have h1 : (xs.length : Int) ≤ j := by omega
      obtain rfl : j = xs.length := by omega
      rw [List.take_length] at d0 d1
      obtain ⟨rc, hrc⟩ : ∃ rc, tx (pairW xs).1 = rc := ⟨_, rfl⟩
      obtain ⟨rd, hrd⟩ : ∃ rd, tx (pairW xs).2 = rd := ⟨_, rfl⟩
      rw [hrc] at d0
      rw [hrd] at d1
      have HRC := Lib.hid hrc
      have HRD := Lib.hid hrd
      clear hrc hrd
      obtain ⟨u, v, k0, k1, f0, f1⟩ := HT1.out.facts
      go_wp2_with fail
      have HH := set2_heap HT1.out (.string rc) (.string rd)
      have XX := HX.out.set2 (g := w.heap.size) (Nat.le_refl _) (.string rc) (.string rd)
      change bodyPost _ _ _ _ _ (N.set2 wr w.heap.size (.string rc) (.string rd))
      obtain ⟨hc0, hc1⟩ := cells_of HH
      generalize N.set2 wr w.heap.size (.string rc) (.string rd) = W3 at *
      exact bodyPost_ret (v := .agg #[.string rc, .string rd]) (by simp [results, Tryz.results62, go_sem, hc0, hc1]) rfl ⟨by rw [HRC.out, HRD.out], XX⟩
end Go.Proofs.YtijnadjgmmednaaGreat.N
namespace Go.Proofs.YtijnadjgmmednaaGreat.N
open Go.RowKit
set_option maxHeartbeats 3200000 in
set_option maxRecDepth 100000 in
theorem implLC_no (s t : ByteArray) (m : Int) (h : ¬ (Good s t ∧ 0 ≤ m ∧ m ≤ 4)) (w : World) :
    Calls Tryz.prog 22 #[.agg #[.string s, .string t], .int .i64 m] w fun e w' => e = .returned (pb ⟨#[]⟩ ⟨#[]⟩ false) ∧ Ext w w' := by
  obtain ⟨X2, _, t1, _⟩ := boxP_facts w s t
  have X2 := Lib.hid X2
  unfold pb
  by_cases hg : Good s t
  · have hm : ¬ (0 ≤ m ∧ m ≤ 4) := fun k => h ⟨hg, k⟩
    obtain ⟨A, B, rfl, rfl, h1, h2⟩ := hg
    have C1 := Lib.hid (fun W => pairOf_yes A B h1 h2 W)
    have C0 := Lib.hid (fun W => isMost_calls m W)
    rw [decide_eq_false hm] at C0
    clear h1 h2 h hm
    generalize tx A = a at *
    generalize tx B = b at *
    go_enter Tryz.func22, Tryz.ntmps22
    go_wp2_with fail
    generalize (w.alloc (.cells #[.string a, .string b] 25)).alloc (.cells #[.string ⟨#[]⟩, .string ⟨#[]⟩] 25) = W at *
    refine (C1.out _).mono ?_
    rintro e w1 ⟨p1, p2, rfl, rA, rB, x1⟩
    have x1 := x1.alloc (.cells #[.pointer p1, .pointer p2] 62)
    have X1 := Lib.hid (X2.out.trans x1)
    have T1 := t1.ext x1
    obtain ⟨u, v, k0, k1, f0, f1⟩ := T1.facts
    have T1 := Lib.hid T1
    clear rA rB t1 x1
    go_wp2_with fail
    generalize w1.alloc (.cells #[.pointer p1, .pointer p2] 62) = W1 at *
    refine (C0.out _).mono ?_
    rintro e w2 ⟨rfl, rfl⟩
    go_wp2_with fail
    have HH := set2_heap T1.out (.string ⟨#[]⟩) (.string ⟨#[]⟩)
    have XX := X1.out.set2 (g := w.heap.size + 1) (by omega) (.string ⟨#[]⟩) (.string ⟨#[]⟩)
    change bodyPost _ _ _ _ _ (N.set2 W1 (w.heap.size + 1) (.string ⟨#[]⟩) (.string ⟨#[]⟩))
    obtain ⟨hc0, hc1⟩ := cells_of HH
    generalize N.set2 W1 (w.heap.size + 1) (.string ⟨#[]⟩) (.string ⟨#[]⟩) = W3 at *
    exact bodyPost_ret (v := .tuple #[.agg #[.string ⟨#[]⟩, .string ⟨#[]⟩], .bool false]) (by simp [results, Tryz.results22, go_sem, hc0, hc1]) rfl ⟨rfl, XX⟩
  · have C1 := Lib.hid (fun W => pairOf_no s t hg W)
    clear hg h
    go_enter Tryz.func22, Tryz.ntmps22
    go_wp2_with fail
    generalize (w.alloc (.cells #[.string s, .string t] 25)).alloc (.cells #[.string ⟨#[]⟩, .string ⟨#[]⟩] 25) = W at *
    refine (C1.out _).mono ?_
    rintro e w1 ⟨p1, p2, rfl, x1⟩
    have x1 := x1.alloc (.cells #[.pointer p1, .pointer p2] 62)
    have X1 := Lib.hid (X2.out.trans x1)
    have T1 := t1.ext x1
    obtain ⟨u, v, k0, k1, f0, f1⟩ := T1.facts
    have T1 := Lib.hid T1
    clear t1 x1
    go_wp2_with fail
    have HH := set2_heap T1.out (.string ⟨#[]⟩) (.string ⟨#[]⟩)
    have XX := X1.out.set2 (g := w.heap.size + 1) (by omega) (.string ⟨#[]⟩) (.string ⟨#[]⟩)
    change bodyPost _ _ _ _ _ (N.set2 (w1.alloc (.cells #[.pointer p1, .pointer p2] 62)) (w.heap.size + 1) (.string ⟨#[]⟩) (.string ⟨#[]⟩))
    obtain ⟨hc0, hc1⟩ := cells_of HH
    generalize N.set2 (w1.alloc (.cells #[.pointer p1, .pointer p2] 62)) (w.heap.size + 1) (.string ⟨#[]⟩) (.string ⟨#[]⟩) = W3 at *
    exact bodyPost_ret (v := .tuple #[.agg #[.string ⟨#[]⟩, .string ⟨#[]⟩], .bool false]) (by simp [results, Tryz.results22, go_sem, hc0, hc1]) rfl ⟨rfl, XX⟩
set_option maxHeartbeats 3200000 in
set_option maxRecDepth 100000 in
theorem specLC_no (s t : ByteArray) (m : Int) (h : ¬ (Good s t ∧ 0 ≤ m ∧ m ≤ 4)) (w : World) :
    Calls Tryz.prog 23 #[.agg #[.string s, .string t], .int .i64 m] w fun e w' => e = .returned (pb ⟨#[]⟩ ⟨#[]⟩ false) ∧ Ext w w' := by
  obtain ⟨X2, _, t1, _⟩ := boxP_facts w s t
  have X2 := Lib.hid X2
  unfold pb
  by_cases hg : Good s t
  · have hm : ¬ (0 ≤ m ∧ m ≤ 4) := fun k => h ⟨hg, k⟩
    obtain ⟨A, B, rfl, rfl, h1, h2⟩ := hg
    have C1 := Lib.hid (fun W => prGood_yes A B h1 h2 W)
    have C0 := Lib.hid (fun W => l1In_calls m 0 4 W)
    rw [decide_eq_false hm] at C0
    clear h1 h2 h hm
    generalize tx A = a at *
    generalize tx B = b at *
    go_enter Tryz.func23, Tryz.ntmps23
    go_wp2_with fail
    generalize (w.alloc (.cells #[.string a, .string b] 25)).alloc (.cells #[.string ⟨#[]⟩, .string ⟨#[]⟩] 25) = W at *
    refine (C1.out _).mono ?_
    rintro e w1 ⟨rfl, x1⟩
    have X1 := Lib.hid (X2.out.trans x1)
    have T1 := t1.ext x1
    obtain ⟨u, v, k0, k1, f0, f1⟩ := T1.facts
    have T1 := Lib.hid T1
    clear t1 x1
    go_wp2_with fail
    refine (C0.out _).mono ?_
    rintro e w2 ⟨rfl, rfl⟩
    go_wp2_with fail
    have HH := set2_heap T1.out (.string ⟨#[]⟩) (.string ⟨#[]⟩)
    have XX := X1.out.set2 (g := w.heap.size + 1) (by omega) (.string ⟨#[]⟩) (.string ⟨#[]⟩)
    change bodyPost _ _ _ _ _ (N.set2 w1 (w.heap.size + 1) (.string ⟨#[]⟩) (.string ⟨#[]⟩))
    obtain ⟨hc0, hc1⟩ := cells_of HH
    generalize N.set2 w1 (w.heap.size + 1) (.string ⟨#[]⟩) (.string ⟨#[]⟩) = W3 at *
    exact bodyPost_ret (v := .tuple #[.agg #[.string ⟨#[]⟩, .string ⟨#[]⟩], .bool false]) (by simp [results, Tryz.results23, go_sem, hc0, hc1]) rfl ⟨rfl, XX⟩
  · have C1 := Lib.hid (fun W => prGood_no s t hg W)
    clear hg h
    go_enter Tryz.func23, Tryz.ntmps23
    go_wp2_with fail
    generalize (w.alloc (.cells #[.string s, .string t] 25)).alloc (.cells #[.string ⟨#[]⟩, .string ⟨#[]⟩] 25) = W at *
    refine (C1.out _).mono ?_
    rintro e w1 ⟨rfl, x1⟩
    have X1 := Lib.hid (X2.out.trans x1)
    have T1 := t1.ext x1
    obtain ⟨u, v, k0, k1, f0, f1⟩ := T1.facts
    have T1 := Lib.hid T1
    clear t1 x1
    go_wp2_with fail
    have HH := set2_heap T1.out (.string ⟨#[]⟩) (.string ⟨#[]⟩)
    have XX := X1.out.set2 (g := w.heap.size + 1) (by omega) (.string ⟨#[]⟩) (.string ⟨#[]⟩)
    change bodyPost _ _ _ _ _ (N.set2 w1 (w.heap.size + 1) (.string ⟨#[]⟩) (.string ⟨#[]⟩))
    obtain ⟨hc0, hc1⟩ := cells_of HH
    generalize N.set2 w1 (w.heap.size + 1) (.string ⟨#[]⟩) (.string ⟨#[]⟩) = W3 at *
    exact bodyPost_ret (v := .tuple #[.agg #[.string ⟨#[]⟩, .string ⟨#[]⟩], .bool false]) (by simp [results, Tryz.results23, go_sem, hc0, hc1]) rfl ⟨rfl, XX⟩
theorem leastR_at (p : Tr × Tr) (n j : Nat) {ws : List Int} (h : (redWd (n + 1))[j]? = some ws) (s : Tr × Tr) : leastL ltP s ((conjsR p (n + 1)).take (j + 1)) = (if ltP (conj p (pairW ws)) (leastL ltP s ((conjsR p (n + 1)).take j)) then conj p (pairW ws) else leastL ltP s ((conjsR p (n + 1)).take j)) := by
  have e : (conjsR p (n + 1))[j]? = some (conj p (pairW ws)) := by unfold conjsR; rw [List.getElem?_map, h]; rfl
  rw [List.take_add_one, e, leastL_app]; rfl
set_option maxHeartbeats 6400000 in
set_option maxRecDepth 100000 in
theorem specLC_yes (A B : Tr) (hc : A.carets = B.carets) (hB : B.carets ≤ 8) (m : Nat) (hm : m ≤ 4) (w : World) :
    Calls Tryz.prog 23 #[.agg #[.string (tx A), .string (tx B)], .int .i64 m] w fun e w' => e = .returned (pb (tx (leastR (A, B) m).1) (tx (leastR (A, B) m).2) true) ∧ Ext w w' := by
  obtain ⟨X2, t0, t1, b0⟩ := boxP_facts w (tx A) (tx B)
  have X2 := Lib.hid X2
  have C1 := Lib.hid (fun W => prGood_yes A B hc hB W)
  have C0 := Lib.hid (fun W => l1In_calls m 0 4 W)
  rw [decide_eq_true (show (0 : Int) ≤ m ∧ (m : Int) ≤ 4 by omega)] at C0
  have C2 := Lib.hid (fun W => prReduce_calls A B (by omega) (by omega) W)
  have hs : Hid ((red (A, B)).1.carets = (red (A, B)).2.carets ∧ (red (A, B)).2.carets ≤ 8) := ⟨red_same (p := (A, B)) hc, by have := (red_le (A, B)).2; simp only at this; omega⟩
  obtain ⟨L, hL⟩ : ∃ L : Nat → Tr × Tr, ∀ k, L k = leastR (A, B) (k - 1) := ⟨_, fun k => rfl⟩
  have H0 : Hid (L 1 = red (A, B)) := hL 1
  have HM : Hid (leastR (A, B) m = L (m + 1)) := (hL (m + 1)).symm
  have HS : Hid (∀ k, 1 ≤ k → L (k + 1) = leastL ltP (L k) (conjsR (A, B) k)) := fun k hk => by
    obtain ⟨j, rfl⟩ : ∃ j, k = j + 1 := ⟨k - 1, by omega⟩
    rw [hL, hL]; rfl
  have CJ := Lib.hid (fun (q : Tr × Tr) (hq : Bal q) (hqc : q.1.carets ≤ 12) W => cjBy_calls A B q.1 q.2 hc hq (by omega) W)
  have CB := Lib.hid (fun (q : Tr × Tr) (hq : Bal q) => conj_carets (p := (A, B)) (q := q) hc hq)
  have hA8 : Hid (A.carets ≤ 8) := by show _ ≤ _; omega
  have LA : Hid (∀ k, 1 ≤ k → ∀ (j : Nat) (ws : List Int), (redWd k)[j]? = some ws → ∀ s, leastL ltP s ((conjsR (A, B) k).take (j + 1)) = (if ltP (conj (A, B) (pairW ws)) (leastL ltP s ((conjsR (A, B) k).take j)) then conj (A, B) (pairW ws) else leastL ltP s ((conjsR (A, B) k).take j))) := fun k hk j ws h s => by
    obtain ⟨n, rfl⟩ : ∃ n, k = n + 1 := ⟨k - 1, by omega⟩
    exact leastR_at (A, B) n j h s
  have LNN : Hid (∀ n, (conjsR (A, B) n).length = (redWd n).length) := fun n => by simp [conjsR]
  rw [HM.out]
  clear hL HM
  generalize conjsR (A, B) = CR at *
  generalize hp : red (A, B) = p0 at *
  have hm' : (m : Int) ≤ 4 := by omega
  generalize hpp : ((A, B) : Tr × Tr) = pp at *
  have PP : Hid (pp.1 = A ∧ pp.2 = B) := by rw [← hpp]; exact ⟨rfl, rfl⟩
  generalize tx A = a at *
  generalize tx B = b at *
  clear hc hB hp hpp
  go_enter Tryz.func23, Tryz.ntmps23
  go_wp2_with fail
  generalize (w.alloc (.cells #[.string a, .string b] 25)).alloc (.cells #[.string ⟨#[]⟩, .string ⟨#[]⟩] 25) = W at *
  refine (C1.out _).mono ?_
  rintro e w1 ⟨rfl, x1⟩
  have X1 := Lib.hid (X2.out.trans x1)
  have T1 := Lib.hid (t1.ext x1)
  have B0 := Lib.hid (x1.at b0)
  obtain ⟨d0, d1⟩ := cells_of B0.out
  clear t1 x1 t0 b0
  go_wp2_with fail
  refine (C0.out _).mono ?_
  rintro e w2 ⟨rfl, rfl⟩
  go_wp2_with fail
  refine (C2.out _).mono ?_
  rintro e w2 ⟨rfl, x2⟩
  have xb := x2.alloc (.cells #[.string (tx p0.1), .string (tx p0.2)] 25)
  have B6 := Lib.hid (heap_alloc_new w2 (.cells #[.string (tx p0.1), .string (tx p0.2)] 25))
  have X3 := Lib.hid (X1.out.trans xb)
  have NE : Hid (w.heap.size + 1 ≠ w2.heap.size ∧ w.heap.size ≤ w2.heap.size ∧ w.heap.size ≠ w2.heap.size) := by have := T1.out.lt; have := x2.size; have := X1.out.size; exact ⟨by omega, by omega, by omega⟩
  have T1 := Lib.hid (T1.out.ext xb)
  have B0 := Lib.hid (xb.at B0.out)
  clear x2 xb d0 d1 X1
  go_wp2_with fail
  generalize w2.alloc (.cells #[.string (tx p0.1), .string (tx p0.2)] 25) = W2 at *
  go_loopw [7] (fun i wr => ∃ k : Nat, 1 ≤ k ∧ k ≤ m + 1 ∧ i = .int .i64 k ∧ Hid ((L k).1.carets ≤ 100 ∧ (L k).2.carets ≤ 100) ∧ Hid (wr.heap[w2.heap.size]? = some (.cells #[.string (tx (L k).1), .string (tx (L k).2)] 25)) ∧ Hid (wr.heap[w.heap.size]? = some (.cells #[.string a, .string b] 25)) ∧ Hid (Two wr (w.heap.size + 1) 25) ∧ Hid (Ext w wr)) (fun i _ => m + 2 - (intOf i).toNat)
  case atStart => exact ⟨1, by omega, by omega, rfl, by rw [H0.out]; have := hs.out; exact ⟨by omega, by omega⟩, by rw [H0.out]; exact B6.out, B0.out, T1.out, X3.out⟩
  case round =>
    obtain ⟨k, hk1, hk, rfl, HC, HB, HA, HT, HX⟩ := hrel
    generalize wr = wk at *
    by_cases hlt : k ≤ m
    · have h0 : (0 : Int) ≤ k := by omega
      have h1 : (k : Int) ≤ m := by omega
      have LK := Lib.hid (LA.out k hk1)
      have LK1 := Lib.hid (HS.out k hk1)
      have LEN : Hid ((redWd k).length ≤ 256) := Nat.le_trans (redWd_length k) (Nat.pow_le_pow_right (by omega) (show k ≤ 4 by omega))
      have WW := Lib.hid (fun w (hw : w ∈ redWd k) => redWd_words hw)
      have CL := Lib.hid (LNN.out k)
      have CW := Lib.hid (fun W => cjWords_calls k (by omega) W)
      have K4 : Hid (k ≤ 4) := by show _ ≤ _; omega
      go_wp2_with fail
      refine (CW.out _).mono ?_
      rintro e w5 ⟨v5, rfl, r5, x5⟩
      obtain ⟨A5, c5, rfl, _, _⟩ := r5.reads.open
      have RD := Lib.hid r5
      have GK : Hid (w2.heap.size < wk.heap.size) := (Array.getElem?_eq_some_iff.1 HB.out).1
      have HB := Lib.hid (x5.at HB.out)
      have HA := Lib.hid (x5.at HA.out)
      have HT := Lib.hid (HT.out.ext x5)
      have X5 := Lib.hid (HX.out.trans x5)
      have LE' := LEN.out
      clear r5 x5
      generalize redWd k = RL at *
      go_wp2_with fail
      go_loopw [32] (fun i wr => ∃ (j : Nat) (s : Tr × Tr), j ≤ RL.length ∧ i = .int .i64 j ∧ Hid (s = leastL ltP (L k) ((CR k).take j)) ∧ Hid (s.1.carets ≤ 100 ∧ s.2.carets ≤ 100) ∧ Hid (wr.heap[w2.heap.size]? = some (.cells #[.string (tx s.1), .string (tx s.2)] 25)) ∧ Hid (wr.heap[w.heap.size]? = some (.cells #[.string a, .string b] 25)) ∧ Hid (Two wr (w.heap.size + 1) 25) ∧ Hid (Ext w wr) ∧ Hid (OwnR wr wk.heap.size (.slice A5 RL.length c5) RL)) (fun i _ => RL.length - (intOf i).toNat)
      case atStart => exact ⟨0, L k, Nat.zero_le _, rfl, rfl, HC.out, HB.out, HA.out, HT.out, X5.out, RD.out⟩
      case round =>
        obtain ⟨j, s, hj, rfl, HS2, HC2, HB2, HA2, HT2, HX2, HR2⟩ := hrel
        generalize wr = wj at *
        by_cases hjl : j < RL.length
        · have g0 : (0 : Int) ≤ j := by omega
          have g1 : (j : Int) < RL.length := by omega
          have hw : RL[j]? = some RL[j] := List.getElem?_eq_getElem hjl
          obtain ⟨A6, c6, e6, _, rd6⟩ := HR2.out.reads.open
          injection e6 with e7 _ e8
          subst e7 e8
          obtain ⟨ad, B, d, rfl, cj, rw1⟩ := rd6 j _ hw
          have WJ := WW.out _ (List.mem_of_getElem? hw)
          have ST := LK.out j _ hw (L k)
          rw [← HS2.out] at ST
          have ST := Lib.hid ST
          generalize RL[j] = ws at *
          have WB : ∀ x ∈ ws, x ≠ 0 ∧ -2 ≤ x ∧ x ≤ 2 := fun x hx => lts_bound (WJ.2 x hx)
          have bq := pairW_bal (fun y hy => (WB y hy).1 : NZ ws)
          have qc := pairW_carets _ ws rfl WB
          have ql : ws.length ≤ 4 := by rw [WJ.1]; exact K4.out
          have CP := Lib.hid (fun W (h : Ext wj W) => cjPair_calls ws ql WB _ W (rw1.ext h))
          have CY := Lib.hid (fun W => CJ.out (pairW ws) bq (by unfold Bal at bq; omega) W)
          rw [show ((pairW ws).1, (pairW ws).2) = pairW ws from rfl] at CY
          have yc := CB.out (pairW ws) bq
          have YC : Hid ((conj pp (pairW ws)).1.carets ≤ 100 ∧ (conj pp (pairW ws)).2.carets ≤ 100) := by
            have := PP.out; have := hA8.out; unfold Bal at bq; rw [PP.out.1] at yc; exact ⟨by omega, by omega⟩
          generalize conj pp (pairW ws) = y at *
          generalize pairW ws = q at *
          clear yc qc ql bq WB hw WJ
          obtain ⟨z1, hz1⟩ : ∃ z, tx y.1 = z := ⟨_, rfl⟩
          obtain ⟨z2, hz2⟩ : ∃ z, tx y.2 = z := ⟨_, rfl⟩
          rw [hz1, hz2] at CY
          have HZ := Lib.hid (And.intro hz1 hz2)
          clear hz1 hz2
          generalize tx q.1 = q1 at *
          generalize tx q.2 = q2 at *
          obtain ⟨e0, e1⟩ := cells_of HA2.out
          go_wp2_with fail
          have KX : ∀ w', Ext wj w' → w'.cell? ⟨w.heap.size, 0, none⟩ = some (.string a) ∧ w'.cell? ⟨w.heap.size, 1, none⟩ = some (.string b) := fun w' h => ⟨h.cell e0, h.cell e1⟩
          go_cut [10] from 36 to 39 (fun u wx => ∃ g, u = .pointer (some ⟨g, 0, none⟩) ∧ wx.heap[g]? = some (.cells #[.string z1, .string z2] 25) ∧ Ext wj wx)
          case first =>
            go_region_held3 (fun w' => w'.cell? ⟨w.heap.size, 0, none⟩ = some (.string a) ∧ w'.cell? ⟨w.heap.size, 1, none⟩ = some (.string b))
              (first | exact KX _ (Ext.refl _).drew | exact KX _ ((Ext.refl _).alloc _).drew | exact KX _ ((Ext.refl _).drew.alloc _) | exact KX _ x3 | exact KX _ (x3.alloc _) | exact KX _ x4 | exact KX _ (x4.alloc _) | exact KX _ (x4.set2 hg (.string z1) (.string z2)) | fail)
              (first
                | (go_at_call 29; refine (CY.out _).mono ?_; rintro e w4 ⟨rfl, hx4⟩; (first | (with_reducible have x4 := x3.trans hx4; (first | (with_reducible have TW := TW.ext hx4; obtain ⟨u, v, k0, k1, f0, f1⟩ := TW.facts) | skip)) | (have TW := (Two.new w3 (.string ⟨#[]⟩) (.string ⟨#[]⟩) 25 rfl).ext hx4; have hg := Ext.heap x3; have x4 := (x3.alloc _).trans hx4; obtain ⟨u, v, k0, k1, f0, f1⟩ := TW.facts)))
                | (go_at_call 62; (first | ((with_reducible refine (CP.out _ (Ext.refl wj).drew).mono ?_); rintro e w3 ⟨rfl, hx3⟩; have x3 := (Ext.refl wj).drew.trans hx3) | (refine (CP.out _ ((Ext.refl wj).alloc _).drew).mono ?_; rintro e w3 ⟨rfl, hx3⟩; have TW := ((Two.new wj (.string ⟨#[]⟩) (.string ⟨#[]⟩) 25 rfl).ext (Ext.refl _).drew).ext hx3; have hg := Nat.le_refl wj.heap.size; have x3 := ((Ext.refl wj).alloc _).drew.trans hx3)))
                | fail)
            all_goals
              go_wp2_with fail
              go_meet
              first
                | exact ⟨_, rfl, heap_alloc_new w4 _, x4.alloc _⟩
                | exact ⟨_, rfl, set2_heap TW (.string z1) (.string z2), x4.set2 hg (.string z1) (.string z2)⟩
          case rest =>
            obtain ⟨g, rfl, hq, XA⟩ := hcut
            have HB3 := Lib.hid (XA.at HB2.out)
            have HA3 := Lib.hid (XA.at HA2.out)
            have HT3 := Lib.hid (HT2.out.ext XA)
            have HX3 := Lib.hid (HX2.out.trans XA)
            have HR3 := Lib.hid (HR2.out.ext XA)
            have QB := Lib.hid hq
            clear KX e0 e1 cj rw1 rd6 XA CP CY HB2 HA2 HT2 HX2 HR2
            generalize wc = wd at *
            obtain ⟨c0, c1⟩ := cells_of hq
            obtain ⟨c2, c3⟩ := cells_of HB3.out
            have N1 := Lib.hid (fun W => trCarets_tree y.1 (by have := YC.out; omega) W)
            have N2 := Lib.hid (fun W => trCarets_tree s.1 (by have := HC2.out; omega) W)
            have P1 := fun W => prText_calls y.1 y.2 (by have := YC.out; omega) (by have := YC.out; omega) W
            have P2 := fun W => prText_calls s.1 s.2 (by have := HC2.out; omega) (by have := HC2.out; omega) W
            rw [HZ.out.1, HZ.out.2, show (y.1, y.2) = y from rfl] at P1
            rw [HZ.out.1] at N1
            rw [show (s.1, s.2) = s from rfl] at P2
            have L1 := @ltP_true y s
            have L2 := @ltP_false y s
            generalize hs1 : tx s.1 = s1 at *
            generalize hs2 : tx s.2 = s2 at *
            have HSS := Lib.hid (And.intro hs1 hs2)
            clear hs1 hs2 hq
            go_wp2_with fail
            go_quiet (first
              | (go_at_call_of 56 (Value.string z1); exact Calls.quiet_of_same (same (N1.out _)))
              | (go_at_call_of 56 (Value.string s1); exact Calls.quiet_of_same (same (N2.out _))))
            have xd : Ext wd (wd.drewN nq) := (Ext.refl _).drewN _
            have c0 := xd.cell c0
            have c1 := xd.cell c1
            have c2 := xd.cell c2
            have c3 := xd.cell c3
            have HB3 := Lib.hid (xd.at HB3.out)
            have HA3 := Lib.hid (xd.at HA3.out)
            have HT3 := Lib.hid (HT3.out.ext xd)
            have HX3 := Lib.hid (HX3.out.trans xd)
            have HR3 := Lib.hid (HR3.out.ext xd)
            clear xd QB N1 N2
            generalize wd.drewN nq = wf at *
            have FT : Hid (∀ W2, Ext wf W2 → ltP y s = true → y = leastL ltP (L k) ((CR k).take (j + 1)) ∧ (N.set2 W2 w2.heap.size (.string z1) (.string z2)).heap[w2.heap.size]? = some (.cells #[.string (tx y.1), .string (tx y.2)] 25) ∧ (N.set2 W2 w2.heap.size (.string z1) (.string z2)).heap[w.heap.size]? = some (.cells #[.string a, .string b] 25) ∧ Two (N.set2 W2 w2.heap.size (.string z1) (.string z2)) (w.heap.size + 1) 25 ∧ Ext w (N.set2 W2 w2.heap.size (.string z1) (.string z2)) ∧ OwnR (N.set2 W2 w2.heap.size (.string z1) (.string z2)) wk.heap.size (.slice (some ad) RL.length c5) RL) := by
              intro W2 hx hl
              have T2 : Two W2 w2.heap.size 25 := ⟨_, _, hx.at HB3.out⟩
              refine ⟨by rw [ST.out, hl]; rfl, by rw [HZ.out.1, HZ.out.2]; exact set2_heap T2 _ _, (set2_other NE.out.2.2 _ _).trans (hx.at HA3.out), (HT3.out.ext hx).far NE.out.1 _ _, (HX3.out.trans hx).set2 NE.out.2.1 _ _, (HR3.out.ext hx).same fun i hi => set2_other (by have := GK.out; omega) _ _⟩
            have FF : Hid (∀ W2, Ext wf W2 → ltP y s = false → s = leastL ltP (L k) ((CR k).take (j + 1)) ∧ W2.heap[w2.heap.size]? = some (.cells #[.string (tx s.1), .string (tx s.2)] 25) ∧ W2.heap[w.heap.size]? = some (.cells #[.string a, .string b] 25) ∧ Two W2 (w.heap.size + 1) 25 ∧ Ext w W2 ∧ OwnR W2 wk.heap.size (.slice (some ad) RL.length c5) RL) := by
              intro W2 hx hl
              exact ⟨by rw [ST.out, hl]; rfl, by rw [HSS.out.1, HSS.out.2]; exact hx.at HB3.out, hx.at HA3.out, HT3.out.ext hx, HX3.out.trans hx, HR3.out.ext hx⟩
            have T0 : Hid (∀ W2, Ext wf W2 → Two W2 w2.heap.size 25) := fun W2 hx => ⟨_, _, hx.at HB3.out⟩
            have n0 : (0 : Int) ≤ y.1.carets := by omega
            have n1 : (0 : Int) ≤ s.1.carets := by omega
            have KX : ∀ w', Ext wf w' → w'.cell? ⟨g, 0, none⟩ = some (.string z1) ∧ w'.cell? ⟨g, 1, none⟩ = some (.string z2) ∧ w'.cell? ⟨w2.heap.size, 0, none⟩ = some (.string s1) ∧ w'.cell? ⟨w2.heap.size, 1, none⟩ = some (.string s2) := fun w' h => ⟨h.cell c0, h.cell c1, h.cell c2, h.cell c3⟩
            by_cases h1 : y.1.carets < s.1.carets
            · have FT := Lib.hid (fun W2 hx => FT.out W2 hx (L1.2 (.inl h1)))
              have i1 : (y.1.carets : Int) < s.1.carets := by omega
              clear FF L1 L2 P1 P2
              generalize (y.1.carets : Int) = ym at *
              generalize (s.1.carets : Int) = sn at *
              go_wp2_with fail
              go_quiet (fail)
              have xd : Ext wf (wf.drewN nq) := (Ext.refl _).drewN _
              have c0 := xd.cell c0
              have c1 := xd.cell c1
              obtain ⟨u, v', k0, k1, f0, f1⟩ := (T0.out _ xd).facts
              have F := Lib.hid (FT.out _ xd)
              clear xd
              generalize wf.drewN nq = W2' at *
              go_wp2_with fail
              exact ⟨⟨j + 1, y, by omega, by go_num, F.out.1, YC.out, F.out.2.1, F.out.2.2.1, F.out.2.2.2.1, F.out.2.2.2.2.1, F.out.2.2.2.2.2⟩, by simp [intOf]; omega⟩
            · have i1 : ¬ (y.1.carets : Int) < s.1.carets := by omega
              by_cases h2 : y.1.carets = s.1.carets
              · have i2 : ((y.1.carets : Int) == s.1.carets) = true := by rw [h2]; simp
                cases h3 : blt (ptx y) (ptx s) with
                | true =>
                  have FT := Lib.hid (fun W2 hx => FT.out W2 hx (L1.2 (.inr ⟨h2, h3⟩)))
                  have i3 : Op.bytesLess (ptx y).toList (ptx s).toList = true := h3
                  clear FF L1 L2 h1 h2 h3
                  generalize (y.1.carets : Int) = ym at *
                  generalize (s.1.carets : Int) = sn at *
                  generalize ptx y = ty at *
                  generalize ptx s = ts at *
                  have i4 : decide (ym < sn) = false := decide_eq_false i1
                  go_wp2_with fail
                  go_region_held3 (fun w' => w'.cell? ⟨g, 0, none⟩ = some (.string z1) ∧ w'.cell? ⟨g, 1, none⟩ = some (.string z2) ∧ w'.cell? ⟨w2.heap.size, 0, none⟩ = some (.string s1) ∧ w'.cell? ⟨w2.heap.size, 1, none⟩ = some (.string s2))
                    (first | with_reducible exact KX _ (Ext.refl _).drew | with_reducible exact KX _ x2 | with_reducible exact KX _ x3 | fail)
                    (first
                      | (go_at_call_of 63 (Value.agg #[Value.string z1, Value.string z2]); refine (P1 _).mono ?_; rintro e w2' ⟨rfl, hx⟩; have x2 := (Ext.refl wf).drew.trans hx)
                      | (go_at_call_of 63 (Value.agg #[Value.string s1, Value.string s2]); refine (P2 _).mono ?_; rintro e w3 ⟨rfl, hx⟩; have x3 := x2.trans hx)
                      | fail)
                  have x3' := x3
                  obtain ⟨u, v', k0, k1, f0, f1⟩ := (T0.out _ x3).facts
                  have F := Lib.hid (FT.out _ x3)
                  have c0 := x3.cell c0
                  have c1 := x3.cell c1
                  clear x2 x3 x3' hx c2 c3
                  generalize w3 = W2' at *
                  go_wp2_with fail
                  exact ⟨⟨j + 1, y, by omega, by go_num, F.out.1, YC.out, F.out.2.1, F.out.2.2.1, F.out.2.2.2.1, F.out.2.2.2.2.1, F.out.2.2.2.2.2⟩, by simp [intOf]; omega⟩
                | false =>
                  have FF := Lib.hid (fun W2 hx => FF.out W2 hx (L2.2 ⟨by omega, fun _ => h3⟩))
                  have i3 : Op.bytesLess (ptx y).toList (ptx s).toList = false := h3
                  clear FT L1 L2 h1 h2 h3
                  generalize (y.1.carets : Int) = ym at *
                  generalize (s.1.carets : Int) = sn at *
                  generalize ptx y = ty at *
                  generalize ptx s = ts at *
                  have i4 : decide (ym < sn) = false := decide_eq_false i1
                  go_wp2_with fail
                  go_region_held3 (fun w' => w'.cell? ⟨g, 0, none⟩ = some (.string z1) ∧ w'.cell? ⟨g, 1, none⟩ = some (.string z2) ∧ w'.cell? ⟨w2.heap.size, 0, none⟩ = some (.string s1) ∧ w'.cell? ⟨w2.heap.size, 1, none⟩ = some (.string s2))
                    (first | with_reducible exact KX _ (Ext.refl _).drew | with_reducible exact KX _ x2 | with_reducible exact KX _ x3 | fail)
                    (first
                      | (go_at_call_of 63 (Value.agg #[Value.string z1, Value.string z2]); refine (P1 _).mono ?_; rintro e w2' ⟨rfl, hx⟩; have x2 := (Ext.refl wf).drew.trans hx)
                      | (go_at_call_of 63 (Value.agg #[Value.string s1, Value.string s2]); refine (P2 _).mono ?_; rintro e w3 ⟨rfl, hx⟩; have x3 := x2.trans hx)
                      | fail)
                  have F := Lib.hid (FF.out _ x3)
                  clear x2 x3 hx
                  go_wp2_with fail
                  exact ⟨⟨j + 1, s, by omega, by go_num, F.out.1, HC2.out, F.out.2.1, F.out.2.2.1, F.out.2.2.2.1, F.out.2.2.2.2.1, F.out.2.2.2.2.2⟩, by simp [intOf]; omega⟩
              · have FF := Lib.hid (fun W2 hx => FF.out W2 hx (L2.2 ⟨by omega, fun h => absurd h h2⟩))
                have i2 : ((y.1.carets : Int) == s.1.carets) = false := by rw [beq_eq_false_iff_ne]; omega
                clear FT L1 L2 P1 P2 h1 h2
                generalize (y.1.carets : Int) = ym at *
                generalize (s.1.carets : Int) = sn at *
                go_wp2_with fail
                go_quiet (fail)
                have xd : Ext wf (wf.drewN nq) := (Ext.refl _).drewN _
                have F := Lib.hid (FF.out _ xd)
                clear xd
                go_wp2_with fail
                exact ⟨⟨j + 1, s, by omega, by go_num, F.out.1, HC2.out, F.out.2.1, F.out.2.2.1, F.out.2.2.2.1, F.out.2.2.2.2.1, F.out.2.2.2.2.2⟩, by simp [intOf]; omega⟩
        · have g1 : (RL.length : Int) ≤ j := by omega
          obtain rfl : j = RL.length := by omega
          have ES : Hid (s = L (k + 1)) := by show _ = _; rw [LK1.out, HS2.out, ← CL.out, List.take_length]
          have HB2 := HB2.out
          have HC2 := HC2.out
          rw [ES.out] at HB2 HC2
          have HB2 := Lib.hid HB2
          have HC2 := Lib.hid HC2
          go_wp2_with fail
          exact ⟨⟨k + 1, by omega, by omega, by go_num, HC2.out, HB2.out, HA2.out, HT2.out, HX2.out⟩, by simp [intOf]; omega⟩
    · have h1 : ¬ (k : Int) ≤ m := by omega
      obtain rfl : k = m + 1 := by omega
      obtain ⟨d0, d1⟩ := cells_of HB.out
      obtain ⟨rc, hrc⟩ : ∃ rc, tx (L (m + 1)).1 = rc := ⟨_, rfl⟩
      obtain ⟨rd, hrd⟩ : ∃ rd, tx (L (m + 1)).2 = rd := ⟨_, rfl⟩
      rw [hrc] at d0
      rw [hrd] at d1
      have HRC := Lib.hid hrc
      have HRD := Lib.hid hrd
      clear hrc hrd
      obtain ⟨u, v, k0, k1, f0, f1⟩ := HT.out.facts
      go_wp2_with fail
      have HH := set2_heap HT.out (.string rc) (.string rd)
      have XX := HX.out.set2 (g := w.heap.size + 1) (by omega) (.string rc) (.string rd)
      change bodyPost _ _ _ _ _ (N.set2 wk (w.heap.size + 1) (.string rc) (.string rd))
      obtain ⟨hc0, hc1⟩ := cells_of HH
      generalize N.set2 wk (w.heap.size + 1) (.string rc) (.string rd) = W3 at *
      exact bodyPost_ret (v := .tuple #[.agg #[.string rc, .string rd], .bool true]) (by simp [results, Tryz.results23, go_sem, hc0, hc1]) rfl ⟨by rw [HRC.out, HRD.out]; rfl, XX⟩
end Go.Proofs.YtijnadjgmmednaaGreat.N
namespace Go.Proofs.YtijnadjgmmednaaGreat.N
open Go.RowKit
theorem FoundV.own {w : World} {base : Nat} {v : Value} {s : Option (List Int)} (h : FoundV w base v s) : Own w base 3 v (ints (s.getD [])) := by
  cases s with
  | none => cases h; exact Own.nil _ _ _
  | some xs => exact h
theorem FoundV.mono {w : World} {base base' : Nat} {v : Value} {s : Option (List Int)} (h : FoundV w base v s) (hb : base' ≤ base) : FoundV w base' v s := by
  cases s with
  | none => exact h
  | some xs => exact Own.mono h hb
theorem boxes4 (w : World) (a b c d : Value) (t : TypeId) :
    Ext w ((w.alloc (.cells #[a, b] t)).alloc (.cells #[c, d] t)) ∧ ((w.alloc (.cells #[a, b] t)).alloc (.cells #[c, d] t)).cell? ⟨w.heap.size, 0, none⟩ = some a ∧ ((w.alloc (.cells #[a, b] t)).alloc (.cells #[c, d] t)).cell? ⟨w.heap.size, 1, none⟩ = some b ∧
    ((w.alloc (.cells #[a, b] t)).alloc (.cells #[c, d] t)).cell? ⟨w.heap.size + 1, 0, none⟩ = some c ∧ ((w.alloc (.cells #[a, b] t)).alloc (.cells #[c, d] t)).cell? ⟨w.heap.size + 1, 1, none⟩ = some d := by
  have h0 := ((Ext.refl _).alloc (.cells #[c, d] t)).at (heap_alloc_new w (.cells #[a, b] t))
  have h1 := heap_alloc_new (w.alloc (.cells #[a, b] t)) (.cells #[c, d] t)
  rw [show (w.alloc (.cells #[a, b] t)).heap.size = w.heap.size + 1 by simp] at h1
  exact ⟨((Ext.refl w).alloc _).alloc _, (cells_of h0).1, (cells_of h0).2, (cells_of h1).1, (cells_of h1).2⟩
set_option maxHeartbeats 3200000 in
set_option maxRecDepth 100000 in
theorem implFC_yes (A B C D : Tr) (hc : A.carets = B.carets) (hB : B.carets ≤ 8) (hd : C.carets = D.carets) (hD : D.carets ≤ 8) (n : Nat) (hn : n ≤ 4) (w : World) :
    Calls Tryz.prog 6 #[.agg #[.string (tx A), .string (tx B)], .agg #[.string (tx C), .string (tx D)], .int .i64 n] w fun e w' => ∃ v, e = .returned (.tuple #[v, .bool (foundF (conjugA (A, B) (ptx (red (C, D))) 0 (n + 1)))]) ∧ FoundV w' w.heap.size v (conjugA (A, B) (ptx (red (C, D))) 0 (n + 1)) ∧ Ext w w' := by
  obtain ⟨X2, c0, c1, c2, c3⟩ := boxes4 w (.string (tx A)) (.string (tx B)) (.string (tx C)) (.string (tx D)) 25
  have X2 := Lib.hid X2
  have C1 := Lib.hid (two_yes A B C D hc hB hd hD)
  have C2 := Lib.hid (fun p1 p2 p3 p4 W => conjugator_calls A B C D hc hB hd hD n hn p1 p2 p3 p4 W)
  have C0 := Lib.hid (fun W => isMost_calls n W)
  rw [decide_eq_true (show (0 : Int) ≤ n ∧ (n : Int) ≤ 4 by omega)] at C0
  generalize conjugA (A, B) (ptx (red (C, D))) 0 (n + 1) = R at *
  clear hc hB hd hD hn
  go_enter Tryz.func6, Tryz.ntmps6
  go_wp2_with fail
  generalize (w.alloc (.cells #[.string (tx A), .string (tx B)] 25)).alloc (.cells #[.string (tx C), .string (tx D)] 25) = W at *
  refine (C1.out _).mono ?_
  rintro e w1 ⟨pa, pb, pc, pd, rfl, rA, rB, rC, rD, x1⟩
  obtain ⟨xx, d0, d1, d2, d3⟩ := boxes4 w1 (.pointer pa) (.pointer pb) (.pointer pc) (.pointer pd) 62
  have X1 := Lib.hid (X2.out.trans (x1.trans xx))
  have RA := Lib.hid (rA.ext xx)
  have RB := Lib.hid (rB.ext xx)
  have RC := Lib.hid (rC.ext xx)
  have RD := Lib.hid (rD.ext xx)
  clear rA rB rC rD x1 xx
  go_wp2_with fail
  generalize (w1.alloc (.cells #[.pointer pa, .pointer pb] 62)).alloc (.cells #[.pointer pc, .pointer pd] 62) = W1 at *
  refine (C0.out _).mono ?_
  rintro e w2 ⟨rfl, rfl⟩
  go_wp2_with fail
  refine (C2.out pa pb pc pd _ RA.out RB.out RC.out RD.out).mono ?_
  rintro e w2 ⟨v, rfl, fv, x2⟩
  have F := Lib.hid (fv.mono X1.out.size)
  have X3 := Lib.hid (X1.out.trans x2)
  clear fv x2
  go_wp2_with fail
  go_ret2
  exact ⟨_, rfl, F.out, X3.out⟩
set_option maxHeartbeats 3200000 in
set_option maxRecDepth 100000 in
theorem implFC_no (s1 t1 s2 t2 : ByteArray) (m : Int) (h : ¬ ((Good s1 t1 ∧ Good s2 t2) ∧ 0 ≤ m ∧ m ≤ 4)) (w : World) :
    Calls Tryz.prog 6 #[.agg #[.string s1, .string t1], .agg #[.string s2, .string t2], .int .i64 m] w fun e w' => ∃ v, e = .returned (.tuple #[v, .bool (foundF none)]) ∧ FoundV w' w.heap.size v none ∧ Ext w w' := by
  obtain ⟨X2, c0, c1, c2, c3⟩ := boxes4 w (.string s1) (.string t1) (.string s2) (.string t2) 25
  have X2 := Lib.hid X2
  by_cases hg : Good s1 t1 ∧ Good s2 t2
  · have hm : ¬ (0 ≤ m ∧ m ≤ 4) := fun k => h ⟨hg, k⟩
    obtain ⟨⟨A, B, rfl, rfl, h1, h2⟩, ⟨C, D, rfl, rfl, h3, h4⟩⟩ := hg
    have C1 := Lib.hid (two_yes A B C D h1 h2 h3 h4)
    have C0 := Lib.hid (fun W => isMost_calls m W)
    rw [decide_eq_false hm] at C0
    clear h h1 h2 h3 h4 hm
    go_enter Tryz.func6, Tryz.ntmps6
    go_wp2_with fail
    generalize (w.alloc (.cells #[.string (tx A), .string (tx B)] 25)).alloc (.cells #[.string (tx C), .string (tx D)] 25) = W at *
    refine (C1.out _).mono ?_
    rintro e w1 ⟨pa, pb, pc, pd, rfl, rA, rB, rC, rD, x1⟩
    obtain ⟨xx, d0, d1, d2, d3⟩ := boxes4 w1 (.pointer pa) (.pointer pb) (.pointer pc) (.pointer pd) 62
    have X1 := Lib.hid (X2.out.trans (x1.trans xx))
    clear rA rB rC rD x1 xx
    go_wp2_with fail
    generalize (w1.alloc (.cells #[.pointer pa, .pointer pb] 62)).alloc (.cells #[.pointer pc, .pointer pd] 62) = W1 at *
    refine (C0.out _).mono ?_
    rintro e w2 ⟨rfl, rfl⟩
    go_wp2_with fail
    go_ret2
    exact ⟨_, rfl, rfl, X1.out⟩
  · have C1 := Lib.hid (two_no s1 t1 s2 t2 hg)
    clear hg h
    go_enter Tryz.func6, Tryz.ntmps6
    go_wp2_with fail
    generalize (w.alloc (.cells #[.string s1, .string t1] 25)).alloc (.cells #[.string s2, .string t2] 25) = W at *
    refine (C1.out _).mono ?_
    rintro e w1 ⟨pa, pb, pc, pd, rfl, x1⟩
    obtain ⟨xx, d0, d1, d2, d3⟩ := boxes4 w1 (.pointer pa) (.pointer pb) (.pointer pc) (.pointer pd) 62
    have X1 := Lib.hid (X2.out.trans (x1.trans xx))
    clear x1 xx
    go_wp2_with fail
    go_ret2
    exact ⟨_, rfl, rfl, X1.out⟩
set_option maxHeartbeats 3200000 in
set_option maxRecDepth 100000 in
theorem implAC_yes (A B C D : Tr) (hc : A.carets = B.carets) (hB : B.carets ≤ 8) (hd : C.carets = D.carets) (hD : D.carets ≤ 8) (n : Nat) (hn : n ≤ 4) (w : World) :
    Calls Tryz.prog 8 #[.agg #[.string (tx A), .string (tx B)], .agg #[.string (tx C), .string (tx D)], .int .i64 n] w fun e w' => e = .returned (.tuple #[.bool (foundF (conjugA (A, B) (ptx (red (C, D))) 0 (n + 1))), .bool true]) ∧ Ext w w' := by
  obtain ⟨X2, c0, c1, c2, c3⟩ := boxes4 w (.string (tx A)) (.string (tx B)) (.string (tx C)) (.string (tx D)) 25
  have X2 := Lib.hid X2
  have C1 := Lib.hid (two_yes A B C D hc hB hd hD)
  have C2 := Lib.hid (fun p1 p2 p3 p4 W => conjugator_calls A B C D hc hB hd hD n hn p1 p2 p3 p4 W)
  have C0 := Lib.hid (fun W => isMost_calls n W)
  rw [decide_eq_true (show (0 : Int) ≤ n ∧ (n : Int) ≤ 4 by omega)] at C0
  generalize conjugA (A, B) (ptx (red (C, D))) 0 (n + 1) = R at *
  clear hc hB hd hD hn
  go_enter Tryz.func8, Tryz.ntmps8
  go_wp2_with fail
  generalize (w.alloc (.cells #[.string (tx A), .string (tx B)] 25)).alloc (.cells #[.string (tx C), .string (tx D)] 25) = W at *
  refine (C1.out _).mono ?_
  rintro e w1 ⟨pa, pb, pc, pd, rfl, rA, rB, rC, rD, x1⟩
  obtain ⟨xx, d0, d1, d2, d3⟩ := boxes4 w1 (.pointer pa) (.pointer pb) (.pointer pc) (.pointer pd) 62
  have X1 := Lib.hid (X2.out.trans (x1.trans xx))
  have RA := Lib.hid (rA.ext xx)
  have RB := Lib.hid (rB.ext xx)
  have RC := Lib.hid (rC.ext xx)
  have RD := Lib.hid (rD.ext xx)
  clear rA rB rC rD x1 xx
  go_wp2_with fail
  generalize (w1.alloc (.cells #[.pointer pa, .pointer pb] 62)).alloc (.cells #[.pointer pc, .pointer pd] 62) = W1 at *
  refine (C0.out _).mono ?_
  rintro e w2 ⟨rfl, rfl⟩
  go_wp2_with fail
  refine (C2.out pa pb pc pd _ RA.out RB.out RC.out RD.out).mono ?_
  rintro e w2 ⟨v, rfl, fv, x2⟩
  have X3 := Lib.hid (X1.out.trans x2)
  clear fv x2
  go_wp2_with fail
  go_ret2
  exact ⟨rfl, X3.out⟩
set_option maxHeartbeats 3200000 in
set_option maxRecDepth 100000 in
theorem implAC_no (s1 t1 s2 t2 : ByteArray) (m : Int) (h : ¬ ((Good s1 t1 ∧ Good s2 t2) ∧ 0 ≤ m ∧ m ≤ 4)) (w : World) :
    Calls Tryz.prog 8 #[.agg #[.string s1, .string t1], .agg #[.string s2, .string t2], .int .i64 m] w fun e w' => e = .returned (.tuple #[.bool false, .bool false]) ∧ Ext w w' := by
  obtain ⟨X2, c0, c1, c2, c3⟩ := boxes4 w (.string s1) (.string t1) (.string s2) (.string t2) 25
  have X2 := Lib.hid X2
  by_cases hg : Good s1 t1 ∧ Good s2 t2
  · have hm : ¬ (0 ≤ m ∧ m ≤ 4) := fun k => h ⟨hg, k⟩
    obtain ⟨⟨A, B, rfl, rfl, h1, h2⟩, ⟨C, D, rfl, rfl, h3, h4⟩⟩ := hg
    have C1 := Lib.hid (two_yes A B C D h1 h2 h3 h4)
    have C0 := Lib.hid (fun W => isMost_calls m W)
    rw [decide_eq_false hm] at C0
    clear h h1 h2 h3 h4 hm
    go_enter Tryz.func8, Tryz.ntmps8
    go_wp2_with fail
    generalize (w.alloc (.cells #[.string (tx A), .string (tx B)] 25)).alloc (.cells #[.string (tx C), .string (tx D)] 25) = W at *
    refine (C1.out _).mono ?_
    rintro e w1 ⟨pa, pb, pc, pd, rfl, rA, rB, rC, rD, x1⟩
    obtain ⟨xx, d0, d1, d2, d3⟩ := boxes4 w1 (.pointer pa) (.pointer pb) (.pointer pc) (.pointer pd) 62
    have X1 := Lib.hid (X2.out.trans (x1.trans xx))
    clear rA rB rC rD x1 xx
    go_wp2_with fail
    generalize (w1.alloc (.cells #[.pointer pa, .pointer pb] 62)).alloc (.cells #[.pointer pc, .pointer pd] 62) = W1 at *
    refine (C0.out _).mono ?_
    rintro e w2 ⟨rfl, rfl⟩
    go_wp2_with fail
    go_ret2
    exact ⟨rfl, X1.out⟩
  · have C1 := Lib.hid (two_no s1 t1 s2 t2 hg)
    clear hg h
    go_enter Tryz.func8, Tryz.ntmps8
    go_wp2_with fail
    generalize (w.alloc (.cells #[.string s1, .string t1] 25)).alloc (.cells #[.string s2, .string t2] 25) = W at *
    refine (C1.out _).mono ?_
    rintro e w1 ⟨pa, pb, pc, pd, rfl, x1⟩
    obtain ⟨xx, d0, d1, d2, d3⟩ := boxes4 w1 (.pointer pa) (.pointer pb) (.pointer pc) (.pointer pd) 62
    have X1 := Lib.hid (X2.out.trans (x1.trans xx))
    clear x1 xx
    go_wp2_with fail
    go_ret2
    exact ⟨rfl, X1.out⟩
set_option maxHeartbeats 3200000 in
set_option maxRecDepth 100000 in
theorem cjAsked_calls (s1 t1 s2 t2 : ByteArray) (m : Int) (w : World) :
    Calls Tryz.prog 34 #[.agg #[.string s1, .string t1], .agg #[.string s2, .string t2], .int .i64 m] w fun e w' => ∃ b, e = .returned (.bool b) ∧ Hid (b = true ↔ (Good s1 t1 ∧ Good s2 t2) ∧ 0 ≤ m ∧ m ≤ 4) ∧ Ext w w' := by
  obtain ⟨X2, c0, c1, c2, c3⟩ := boxes4 w (.string s1) (.string t1) (.string s2) (.string t2) 25
  have X2 := Lib.hid X2
  by_cases h1 : Good s1 t1
  · have C1 : Hid (∀ W, Calls Tryz.prog 27 #[.agg #[.string s1, .string t1]] W fun e w' => e = .returned (.bool true) ∧ Ext W w') := by
      obtain ⟨A, B, rfl, rfl, a1, a2⟩ := h1
      exact fun W => prGood_yes A B a1 a2 W
    by_cases h2 : Good s2 t2
    · have C2 : Hid (∀ W, Calls Tryz.prog 27 #[.agg #[.string s2, .string t2]] W fun e w' => e = .returned (.bool true) ∧ Ext W w') := by
        obtain ⟨A, B, rfl, rfl, a1, a2⟩ := h2
        exact fun W => prGood_yes A B a1 a2 W
      have C3 := Lib.hid (fun W => l1In_calls m 0 4 W)
      have FI : Hid (decide (0 ≤ m ∧ m ≤ 4) = true ↔ (Good s1 t1 ∧ Good s2 t2) ∧ 0 ≤ m ∧ m ≤ 4) := ⟨fun h => ⟨⟨h1, h2⟩, of_decide_eq_true h⟩, fun h => decide_eq_true h.2⟩
      clear h1 h2
      go_enter Tryz.func34, Tryz.ntmps34
      go_wp2_with fail
      generalize (w.alloc (.cells #[.string s1, .string t1] 25)).alloc (.cells #[.string s2, .string t2] 25) = W at *
      refine (C1.out _).mono ?_
      rintro e w1 ⟨rfl, x1⟩
      have c2 := x1.cell c2
      have c3 := x1.cell c3
      have X1 := Lib.hid (X2.out.trans x1)
      clear x1 c0 c1
      go_wp2_with fail
      refine (C2.out _).mono ?_
      rintro e w2 ⟨rfl, x2⟩
      have X3 := Lib.hid (X1.out.trans x2)
      clear x2 c2 c3
      go_wp2_with fail
      refine (C3.out _).mono ?_
      rintro e w3 ⟨rfl, rfl⟩
      generalize decide (0 ≤ m ∧ m ≤ 4) = b at *
      go_wp2_with fail
      go_ret
      exact ⟨_, rfl, FI.out, X3.out⟩
    · have C2 := Lib.hid (fun W => prGood_no s2 t2 h2 W)
      have FI : Hid (false = true ↔ (Good s1 t1 ∧ Good s2 t2) ∧ 0 ≤ m ∧ m ≤ 4) := ⟨(fun h => by cases h), fun h => absurd h.1.2 h2⟩
      clear h1 h2
      go_enter Tryz.func34, Tryz.ntmps34
      go_wp2_with fail
      generalize (w.alloc (.cells #[.string s1, .string t1] 25)).alloc (.cells #[.string s2, .string t2] 25) = W at *
      refine (C1.out _).mono ?_
      rintro e w1 ⟨rfl, x1⟩
      have c2 := x1.cell c2
      have c3 := x1.cell c3
      have X1 := Lib.hid (X2.out.trans x1)
      clear x1 c0 c1
      go_wp2_with fail
      refine (C2.out _).mono ?_
      rintro e w2 ⟨rfl, x2⟩
      have X3 := Lib.hid (X1.out.trans x2)
      clear x2 c2 c3
      go_wp2_with fail
      go_ret
      exact ⟨_, rfl, FI.out, X3.out⟩
  · have C1 := Lib.hid (fun W => prGood_no s1 t1 h1 W)
    have FI : Hid (false = true ↔ (Good s1 t1 ∧ Good s2 t2) ∧ 0 ≤ m ∧ m ≤ 4) := ⟨(fun h => by cases h), fun h => absurd h.1.1 h1⟩
    clear h1
    go_enter Tryz.func34, Tryz.ntmps34
    go_wp2_with fail
    generalize (w.alloc (.cells #[.string s1, .string t1] 25)).alloc (.cells #[.string s2, .string t2] 25) = W at *
    refine (C1.out _).mono ?_
    rintro e w1 ⟨rfl, x1⟩
    have X1 := Lib.hid (X2.out.trans x1)
    clear x1 c0 c1
    go_wp2_with fail
    go_ret
    exact ⟨_, rfl, FI.out, X1.out⟩
end Go.Proofs.YtijnadjgmmednaaGreat.N
namespace Go.Proofs.YtijnadjgmmednaaGreat.N
open Go.RowKit
theorem find_drop (P : List Int → Bool) (L : List (List Int)) (j : Nat) (w : List Int) (h : L[j]? = some w) : (L.drop j).find? P = if P w then some w else (L.drop (j + 1)).find? P := by
  rw [List.drop_eq_getElem_cons (List.getElem?_eq_some_iff.1 h).1, (List.getElem?_eq_some_iff.1 h).2, List.find?_cons]
  cases P w <;> rfl
def conjugR (p : Tr × Tr) (goal : ByteArray) (n k : Nat) : Option (List Int) := firstW redWd (fitsR p goal) n k
theorem conjugR_step (p : Tr × Tr) (goal : ByteArray) (n k : Nat) : conjugR p goal n (k + 1) = match (redWd n).find? (fitsR p goal) with | some w => some w | none => conjugR p goal (n + 1) k := rfl
set_option maxHeartbeats 6400000 in
set_option maxRecDepth 100000 in
theorem cjFind_calls (A B C D : Tr) (hc : A.carets = B.carets) (hB : B.carets ≤ 8) (hd : C.carets = D.carets) (hD : D.carets ≤ 8) (m : Nat) (hm : m ≤ 4) (w : World) :
    Calls Tryz.prog 35 #[.agg #[.string (tx A), .string (tx B)], .agg #[.string (tx C), .string (tx D)], .int .i64 m] w fun e w' => ∃ v, e = .returned (.tuple #[v, .bool (foundF (conjugR (A, B) (ptx (red (C, D))) 0 (m + 1)))]) ∧ FoundV w' w.heap.size v (conjugR (A, B) (ptx (red (C, D))) 0 (m + 1)) ∧ Ext w w' := by
  obtain ⟨X2, c0, c1, c2, c3⟩ := boxes4 w (.string (tx A)) (.string (tx B)) (.string (tx C)) (.string (tx D)) 25
  have X2 := Lib.hid X2
  have C2 := Lib.hid (fun W => prReduce_calls C D (by omega) (by omega) W)
  have hq : (red (C, D)).1.carets ≤ 8 ∧ (red (C, D)).2.carets ≤ 8 := by have := red_le (C, D); simp only at this; exact ⟨by omega, by omega⟩
  have CT := Lib.hid (fun W => prText_calls (red (C, D)).1 (red (C, D)).2 (by omega) (by omega) W)
  rw [show ((red (C, D)).1, (red (C, D)).2) = red (C, D) from rfl] at CT
  have CJ := Lib.hid (fun (q : Tr × Tr) (hq : Bal q) (hqc : q.1.carets ≤ 12) W => cjBy_calls A B q.1 q.2 hc hq (by omega) W)
  have CB := Lib.hid (fun (q : Tr × Tr) (hq : Bal q) => conj_carets (p := (A, B)) (q := q) hc hq)
  have hA8 : Hid (A.carets ≤ 8) := by show _ ≤ _; omega
  have HST := Lib.hid (fun goal n k => conjugR_step (A, B) goal n k)
  have H0 : Hid (∀ goal n, conjugR (A, B) goal n 0 = none) := fun goal n => rfl
  have FT : Hid (∀ goal w, fitsR (A, B) goal w = decide (ptx (conj (A, B) (pairW w)) = goal)) := fun goal w => rfl
  have hm' : (m : Int) ≤ 4 := by omega
  generalize conjugR (A, B) = L at *
  generalize fitsR (A, B) = FR at *
  generalize hpp : ((A, B) : Tr × Tr) = pp at *
  have PP : Hid (pp.1 = A ∧ pp.2 = B) := by rw [← hpp]; exact ⟨rfl, rfl⟩
  generalize tx A = a at *
  generalize tx B = b at *
  generalize ptx (red (C, D)) = goal at *
  generalize tx (red (C, D)).1 = g1 at *
  generalize tx (red (C, D)).2 = g2 at *
  generalize tx C = sc at *
  generalize tx D = sd at *
  clear hc hB hd hD hq hpp
  go_enter Tryz.func35, Tryz.ntmps35
  go_wp2_with fail
  generalize (w.alloc (.cells #[.string a, .string b] 25)).alloc (.cells #[.string sc, .string sd] 25) = W at *
  refine (C2.out _).mono ?_
  rintro e w1 ⟨rfl, x1⟩
  have X1 := Lib.hid (X2.out.trans x1)
  have c0 := x1.cell c0
  have c1 := x1.cell c1
  clear x1 c2 c3
  go_wp2_with fail
  refine (CT.out _).mono ?_
  rintro e w2 ⟨rfl, x2⟩
  have X3 := Lib.hid (X1.out.trans x2)
  have D0 : Hid (w2.cell? ⟨w.heap.size, 0, none⟩ = some (.string a) ∧ w2.cell? ⟨w.heap.size, 1, none⟩ = some (.string b)) := ⟨x2.cell c0, x2.cell c1⟩
  clear x2 c0 c1
  go_wp2_with fail
  go_loopw [9] (fun i wr => ∃ k : Nat, k ≤ m + 1 ∧ i = .int .i64 k ∧ Hid (L goal 0 (m + 1) = L goal k (m + 1 - k)) ∧ Hid (wr.cell? ⟨w.heap.size, 0, none⟩ = some (.string a) ∧ wr.cell? ⟨w.heap.size, 1, none⟩ = some (.string b)) ∧ Hid (Ext w wr)) (fun i _ => m + 1 - (intOf i).toNat)
  case atStart => exact ⟨0, by omega, rfl, rfl, D0.out, X3.out⟩
  case round =>
    obtain ⟨k, hk, rfl, HL, HD, HX⟩ := hrel
    generalize wr = wk at *
    by_cases hlt : k ≤ m
    · have h0 : (0 : Int) ≤ k := by omega
      have h1 : (k : Int) ≤ m := by omega
      have ST : Hid (L goal k (m + 1 - k) = match (redWd k).find? (FR goal) with | some w => some w | none => L goal (k + 1) (m - k)) := by
        show _ = _
        rw [show m + 1 - k = m - k + 1 by omega]
        exact HST.out goal k (m - k)
      have LEN : Hid ((redWd k).length ≤ 256) := Nat.le_trans (redWd_length k) (Nat.pow_le_pow_right (by omega) (show k ≤ 4 by omega))
      have WW := Lib.hid (fun w (hw : w ∈ redWd k) => redWd_words hw)
      have CW := Lib.hid (fun W => cjWords_calls k (by omega) W)
      have K4 : Hid (k ≤ 4) := by show _ ≤ _; omega
      go_wp2_with fail
      refine (CW.out _).mono ?_
      rintro e w5 ⟨v5, rfl, r5, x5⟩
      obtain ⟨A5, c5, rfl, _⟩ := r5.open
      have RD := Lib.hid r5
      have X5 := Lib.hid (HX.out.trans x5)
      have HD := Lib.hid (And.intro (x5.cell HD.out.1) (x5.cell HD.out.2))
      have LE' := LEN.out
      clear r5 x5
      generalize redWd k = RL at *
      go_wp2_with fail
      go_loopw [23] (fun i wr => ∃ j : Nat, j ≤ RL.length ∧ i = .int .i64 j ∧ Hid (RL.find? (FR goal) = (RL.drop j).find? (FR goal)) ∧ Hid (wr.cell? ⟨w.heap.size, 0, none⟩ = some (.string a) ∧ wr.cell? ⟨w.heap.size, 1, none⟩ = some (.string b)) ∧ Hid (Ext w wr) ∧ Hid (OwnR wr wk.heap.size (.slice A5 RL.length c5) RL)) (fun i _ => RL.length - (intOf i).toNat)
      case atStart => exact ⟨0, Nat.zero_le _, rfl, rfl, HD.out, X5.out, RD.out⟩
      case round =>
        obtain ⟨j, hj, rfl, HF, HD2, HX2, HR2⟩ := hrel
        generalize wr = wj at *
        by_cases hjl : j < RL.length
        · have g0 : (0 : Int) ≤ j := by omega
          have g1 : (j : Int) < RL.length := by omega
          have hw : RL[j]? = some RL[j] := List.getElem?_eq_getElem hjl
          obtain ⟨A6, c6, e6, rd6⟩ := HR2.out.open
          injection e6 with e7 _ e8
          subst e7 e8
          obtain ⟨ad, B, d, rfl, cj, rw1⟩ := rd6 j _ hw
          have WJ := WW.out _ (List.mem_of_getElem? hw)
          have SD := Lib.hid (find_drop (FR goal) RL j _ hw)
          generalize RL[j] = ws at *
          have WB : ∀ x ∈ ws, x ≠ 0 ∧ -2 ≤ x ∧ x ≤ 2 := fun x hx => lts_bound (WJ.2 x hx)
          have bq := pairW_bal (fun y hy => (WB y hy).1 : NZ ws)
          have qc := pairW_carets _ ws rfl WB
          have ql : ws.length ≤ 4 := by rw [WJ.1]; exact K4.out
          have FW := FT.out goal ws
          have CP := Lib.hid (fun W (h : Ext wj W) => cjPair_calls ws ql WB _ W (rw1.reads.ext h))
          have CY := Lib.hid (fun W => CJ.out (pairW ws) bq (by unfold Bal at bq; omega) W)
          rw [show ((pairW ws).1, (pairW ws).2) = pairW ws from rfl] at CY
          have yc := CB.out (pairW ws) bq
          have YC : (conj pp (pairW ws)).1.carets ≤ 100 ∧ (conj pp (pairW ws)).2.carets ≤ 100 := by
            have := PP.out; have := hA8.out; unfold Bal at bq; rw [PP.out.1] at yc; exact ⟨by omega, by omega⟩
          have PT := Lib.hid (fun W => prText_calls (conj pp (pairW ws)).1 (conj pp (pairW ws)).2 (by omega) (by omega) W)
          rw [show ((conj pp (pairW ws)).1, (conj pp (pairW ws)).2) = conj pp (pairW ws) from rfl] at PT
          generalize ptx (conj pp (pairW ws)) = yt at *
          generalize tx (conj pp (pairW ws)).1 = y1 at *
          generalize tx (conj pp (pairW ws)).2 = y2 at *
          generalize tx (pairW ws).1 = q1 at *
          generalize tx (pairW ws).2 = q2 at *
          have RO := Lib.hid rw1
          have KX : ∀ w', Ext wj w' → w'.cell? ⟨w.heap.size, 0, none⟩ = some (.string a) ∧ w'.cell? ⟨w.heap.size, 1, none⟩ = some (.string b) := fun w' h => ⟨h.cell HD2.out.1, h.cell HD2.out.2⟩
          have BL := Lib.hid (HX.out.size)
          clear yc qc ql bq WB hw WJ rw1 rd6 YC
          go_wp2_with fail
          go_region_held3 (fun w' => w'.cell? ⟨w.heap.size, 0, none⟩ = some (.string a) ∧ w'.cell? ⟨w.heap.size, 1, none⟩ = some (.string b))
            (first | exact KX _ (Ext.refl _).drew | exact KX _ x3 | exact KX _ x4 | exact KX _ x5 | fail)
            (first
              | (go_at_call 29; refine (CY.out _).mono ?_; rintro e w4 ⟨rfl, hx4⟩; have x4 := x3.trans hx4)
              | (go_at_call 62; refine (CP.out _ (Ext.refl wj).drew).mono ?_; rintro e w3 ⟨rfl, hx3⟩; have x3 := (Ext.refl wj).drew.trans hx3)
              | (go_at_call 63; refine (PT.out _).mono ?_; rintro e w5' ⟨rfl, hx5⟩; have x5 := x4.trans hx5)
              | fail)
          have HD3 := Lib.hid (KX _ x5)
          have HX3 := Lib.hid (HX2.out.trans x5)
          have HR3 := Lib.hid (HR2.out.ext x5)
          have RO3 := Lib.hid (RO.out.ext x5)
          clear x3 x4 x5 hx3 hx4 hx5 KX cj
          by_cases hg : yt = goal
          · have t1 : (yt.toList == goal.toList) = true := by rw [hg]; simp
            have EV : Hid (L goal 0 (m + 1) = some ws) := by show _ = _; rw [HL.out, ST.out, HF.out, SD.out, FW, decide_eq_true hg]; rfl
            rw [t1]
            go_wp2_with fail
            go_ret2
            rw [EV.out]
            exact ⟨_, rfl, RO3.out.mono BL.out, HX3.out⟩
          · have t1 : (yt.toList == goal.toList) = false := by rw [beq_eq_false_iff_ne]; intro h; exact hg (ba_ext h)
            have EV : Hid (RL.find? (FR goal) = (RL.drop (j + 1)).find? (FR goal)) := by show _ = _; rw [HF.out, SD.out, FW, decide_eq_false hg]; rfl
            rw [t1]
            go_wp2_with fail
            exact ⟨⟨j + 1, by omega, by go_num, EV.out, HD3.out, HX3.out, HR3.out⟩, by simp [intOf]; omega⟩
        · have g1 : (RL.length : Int) ≤ j := by omega
          have EV : Hid (L goal 0 (m + 1) = L goal (k + 1) (m + 1 - (k + 1))) := by
            show _ = _
            rw [HL.out, ST.out, HF.out, List.drop_eq_nil_of_le (by omega), show m + 1 - (k + 1) = m - k by omega]; rfl
          go_wp2_with fail
          exact ⟨⟨k + 1, by omega, by go_num, EV.out, HD2.out, HX2.out⟩, by simp [intOf]; omega⟩
    · have h1 : ¬ (k : Int) ≤ m := by omega
      have EV : Hid (L goal 0 (m + 1) = none) := by show _ = _; rw [HL.out, show m + 1 - k = 0 by omega]; exact H0.out _ _
      go_wp2_with fail
      go_ret2
      rw [EV.out]
      exact ⟨_, rfl, rfl, HX.out⟩
end Go.Proofs.YtijnadjgmmednaaGreat.N
namespace Go.Proofs.YtijnadjgmmednaaGreat.N
open Go.RowKit
set_option maxHeartbeats 3200000 in
set_option maxRecDepth 100000 in
theorem specFC_yes (A B C D : Tr) (hc : A.carets = B.carets) (hB : B.carets ≤ 8) (hd : C.carets = D.carets) (hD : D.carets ≤ 8) (n : Nat) (hn : n ≤ 4) (w : World) :
    Calls Tryz.prog 7 #[.agg #[.string (tx A), .string (tx B)], .agg #[.string (tx C), .string (tx D)], .int .i64 n] w fun e w' => ∃ v, e = .returned (.tuple #[v, .bool (foundF (conjugR (A, B) (ptx (red (C, D))) 0 (n + 1)))]) ∧ FoundV w' w.heap.size v (conjugR (A, B) (ptx (red (C, D))) 0 (n + 1)) ∧ Ext w w' := by
  obtain ⟨X2, c0, c1, c2, c3⟩ := boxes4 w (.string (tx A)) (.string (tx B)) (.string (tx C)) (.string (tx D)) 25
  have X2 := Lib.hid X2
  have C1 := Lib.hid (fun W => cjAsked_calls (tx A) (tx B) (tx C) (tx D) n W)
  have HB : Hid (∀ b : Bool, (b = true ↔ (Good (tx A) (tx B) ∧ Good (tx C) (tx D)) ∧ (0 : Int) ≤ n ∧ (n : Int) ≤ 4) → b = true) := fun b h => h.2 ⟨⟨⟨A, B, rfl, rfl, hc, hB⟩, ⟨C, D, rfl, rfl, hd, hD⟩⟩, by omega, by omega⟩
  have C2 := Lib.hid (fun W => cjFind_calls A B C D hc hB hd hD n hn W)
  generalize conjugR (A, B) (ptx (red (C, D))) 0 (n + 1) = R at *
  clear hc hB hd hD hn
  go_enter Tryz.func7, Tryz.ntmps7
  go_wp2_with fail
  generalize (w.alloc (.cells #[.string (tx A), .string (tx B)] 25)).alloc (.cells #[.string (tx C), .string (tx D)] 25) = W at *
  refine (C1.out _).mono ?_
  rintro e w1 ⟨b, rfl, hb, x1⟩
  obtain rfl := HB.out b hb.out
  have X1 := Lib.hid (X2.out.trans x1)
  have c0 := x1.cell c0
  have c1 := x1.cell c1
  have c2 := x1.cell c2
  have c3 := x1.cell c3
  clear x1 hb
  go_wp2_with fail
  refine (C2.out _).mono ?_
  rintro e w2 ⟨v, rfl, fv, x2⟩
  have F := Lib.hid (fv.mono X1.out.size)
  have X3 := Lib.hid (X1.out.trans x2)
  clear fv x2
  go_wp2_with fail
  go_ret2
  exact ⟨_, rfl, F.out, X3.out⟩
set_option maxHeartbeats 3200000 in
set_option maxRecDepth 100000 in
theorem specFC_no (s1 t1 s2 t2 : ByteArray) (m : Int) (h : ¬ ((Good s1 t1 ∧ Good s2 t2) ∧ 0 ≤ m ∧ m ≤ 4)) (w : World) :
    Calls Tryz.prog 7 #[.agg #[.string s1, .string t1], .agg #[.string s2, .string t2], .int .i64 m] w fun e w' => ∃ v, e = .returned (.tuple #[v, .bool (foundF none)]) ∧ FoundV w' w.heap.size v none ∧ Ext w w' := by
  obtain ⟨X2, c0, c1, c2, c3⟩ := boxes4 w (.string s1) (.string t1) (.string s2) (.string t2) 25
  have X2 := Lib.hid X2
  have C1 := Lib.hid (fun W => cjAsked_calls s1 t1 s2 t2 m W)
  have HB : Hid (∀ b : Bool, (b = true ↔ (Good s1 t1 ∧ Good s2 t2) ∧ 0 ≤ m ∧ m ≤ 4) → b = false) := fun b hb => by
    cases b with
    | false => rfl
    | true => exact absurd (hb.1 rfl) h
  clear h
  go_enter Tryz.func7, Tryz.ntmps7
  go_wp2_with fail
  generalize (w.alloc (.cells #[.string s1, .string t1] 25)).alloc (.cells #[.string s2, .string t2] 25) = W at *
  refine (C1.out _).mono ?_
  rintro e w1 ⟨b, rfl, hb, x1⟩
  obtain rfl := HB.out b hb.out
  have X1 := Lib.hid (X2.out.trans x1)
  clear x1 hb
  go_wp2_with fail
  go_ret2
  exact ⟨_, rfl, rfl, X1.out⟩
set_option maxHeartbeats 3200000 in
set_option maxRecDepth 100000 in
theorem specAC_yes (A B C D : Tr) (hc : A.carets = B.carets) (hB : B.carets ≤ 8) (hd : C.carets = D.carets) (hD : D.carets ≤ 8) (n : Nat) (hn : n ≤ 4) (w : World) :
    Calls Tryz.prog 9 #[.agg #[.string (tx A), .string (tx B)], .agg #[.string (tx C), .string (tx D)], .int .i64 n] w fun e w' => e = .returned (.tuple #[.bool (foundF (conjugR (A, B) (ptx (red (C, D))) 0 (n + 1))), .bool true]) ∧ Ext w w' := by
  obtain ⟨X2, c0, c1, c2, c3⟩ := boxes4 w (.string (tx A)) (.string (tx B)) (.string (tx C)) (.string (tx D)) 25
  have X2 := Lib.hid X2
  have C1 := Lib.hid (fun W => cjAsked_calls (tx A) (tx B) (tx C) (tx D) n W)
  have HB : Hid (∀ b : Bool, (b = true ↔ (Good (tx A) (tx B) ∧ Good (tx C) (tx D)) ∧ (0 : Int) ≤ n ∧ (n : Int) ≤ 4) → b = true) := fun b h => h.2 ⟨⟨⟨A, B, rfl, rfl, hc, hB⟩, ⟨C, D, rfl, rfl, hd, hD⟩⟩, by omega, by omega⟩
  have C2 := Lib.hid (fun W => cjFind_calls A B C D hc hB hd hD n hn W)
  generalize conjugR (A, B) (ptx (red (C, D))) 0 (n + 1) = R at *
  clear hc hB hd hD hn
  go_enter Tryz.func9, Tryz.ntmps9
  go_wp2_with fail
  generalize (w.alloc (.cells #[.string (tx A), .string (tx B)] 25)).alloc (.cells #[.string (tx C), .string (tx D)] 25) = W at *
  refine (C1.out _).mono ?_
  rintro e w1 ⟨b, rfl, hb, x1⟩
  obtain rfl := HB.out b hb.out
  have X1 := Lib.hid (X2.out.trans x1)
  have c0 := x1.cell c0
  have c1 := x1.cell c1
  have c2 := x1.cell c2
  have c3 := x1.cell c3
  clear x1 hb
  go_wp2_with fail
  refine (C2.out _).mono ?_
  rintro e w2 ⟨v, rfl, fv, x2⟩
  have F := Lib.hid (fv.mono X1.out.size)
  have X3 := Lib.hid (X1.out.trans x2)
  clear fv x2
  go_wp2_with fail
  go_ret2
  exact ⟨rfl, X3.out⟩
set_option maxHeartbeats 3200000 in
set_option maxRecDepth 100000 in
theorem specAC_no (s1 t1 s2 t2 : ByteArray) (m : Int) (h : ¬ ((Good s1 t1 ∧ Good s2 t2) ∧ 0 ≤ m ∧ m ≤ 4)) (w : World) :
    Calls Tryz.prog 9 #[.agg #[.string s1, .string t1], .agg #[.string s2, .string t2], .int .i64 m] w fun e w' => e = .returned (.tuple #[.bool false, .bool false]) ∧ Ext w w' := by
  obtain ⟨X2, c0, c1, c2, c3⟩ := boxes4 w (.string s1) (.string t1) (.string s2) (.string t2) 25
  have X2 := Lib.hid X2
  have C1 := Lib.hid (fun W => cjAsked_calls s1 t1 s2 t2 m W)
  have HB : Hid (∀ b : Bool, (b = true ↔ (Good s1 t1 ∧ Good s2 t2) ∧ 0 ≤ m ∧ m ≤ 4) → b = false) := fun b hb => by
    cases b with
    | false => rfl
    | true => exact absurd (hb.1 rfl) h
  clear h
  go_enter Tryz.func9, Tryz.ntmps9
  go_wp2_with fail
  generalize (w.alloc (.cells #[.string s1, .string t1] 25)).alloc (.cells #[.string s2, .string t2] 25) = W at *
  refine (C1.out _).mono ?_
  rintro e w1 ⟨b, rfl, hb, x1⟩
  obtain rfl := HB.out b hb.out
  have X1 := Lib.hid (X2.out.trans x1)
  clear x1 hb
  go_wp2_with fail
  go_ret2
  exact ⟨rfl, X1.out⟩
end Go.Proofs.YtijnadjgmmednaaGreat.N
