import Derived.Test.YtgnepbogadfinaaGreatDoorXm12
import Derived.Test.YtgnepbogadfinaaGreatDoorXm17
/- A part of the proof: lemmas that later parts use. -/
set_option linter.unusedVariables false
set_option linter.unusedSimpArgs false
namespace Go.Proofs.YtgnepbogadfinaaGreatDoor.N
open Go.RowKit
set_option maxHeartbeats 6400000 in
set_option maxRecDepth 100000 in
theorem mpValue_calls (A B : Tr) (hc : A.carets = B.carets) (hB : B.carets ≤ 8) (m k : Nat) (hk : k ≤ 10) (hm : m ≤ 2 ^ k) (w : World) :
    Calls Tryz.prog 29 #[.agg #[.string (tx A), .string (tx B)], .agg #[.int .i64 m, .int .i64 ((2 ^ k : Nat) : Int)]] w fun e w' => e = .returned (.agg #[.int .i64 ((halve 40 (vaF A B (m * part k)) 1099511627776).1 : Nat), .int .i64 ((halve 40 (vaF A B (m * part k)) 1099511627776).2 : Nat)]) ∧ Ext w w' := by
  have hle : m * part k ≤ 1099511627776 := by rw [← part_mul (show k ≤ 40 by omega)]; exact Nat.mul_le_mul_right _ hm
  have dA := A.depth_le
  have dB := B.depth_le
  have C1 := Lib.hid (fun W => mpLeaf_calls A (by omega) (by omega) m k hk hm W)
  have C2 := Lib.hid (fun W => trAddresses_calls A [] ⟨#[]⟩ W (by omega) (by omega) (by simp; omega) rfl)
  have C3 := Lib.hid (fun W => trAddresses_calls B [] ⟨#[]⟩ W (by omega) (by omega) (by simp; omega) rfl)
  obtain ⟨a, b, ha, hb, hal, hbl, h1, h2, hv⟩ := carr_facts A B hc (by omega) (m * part k) hle
  have h3 := addrs_chn A [] (by simp; omega)
  rw [show plA ([] : List UInt8) = 0 from rfl, show (0 : Nat) + part ([] : List UInt8).length = 1099511627776 by decide] at h3
  have LA := addrs_length A []
  have LB := addrs_length B []
  have hn : addrs A [] ≠ [] := fun h => by rw [h] at LA; simp at LA
  have hsi := si_fi (m * part k) (addrs A []) 0 _ 0 0 h3 hn (Nat.zero_le _) hle
  rw [Nat.zero_add] at hsi
  rw [hsi] at C1
  have al : a.length ≤ 8 := by have := addrs_depth A [] a (List.mem_of_getElem? ha); simp at this; omega
  have bl : b.length ≤ 8 := by have := addrs_depth B [] b (List.mem_of_getElem? hb); simp at this; omega
  have ab := addrs_bits A [] a (fun c h => by cases h) (List.mem_of_getElem? ha)
  have bb := addrs_bits B [] b (fun c h => by cases h) (List.mem_of_getElem? hb)
  have M1 := Lib.hid (fun W => mpOf_calls a ab hal W)
  have M2 := Lib.hid (fun W => mpOf_calls b bb hbl W)
  have LH := low_halve a b m k (by omega) (by omega) hk h1
  rw [hv, ← LH]
  have DP := deF_pos a b k
  have sa := sD_pos a
  have DK : 2 ^ k ≤ 1024 := Nat.pow_le_pow_right (n := 2) (by omega) hk
  have pa : 2 ^ a.length ≤ 256 := Nat.pow_le_pow_right (n := 2) (by omega) al
  have pb : 2 ^ b.length ≤ 256 := Nat.pow_le_pow_right (n := 2) (by omega) bl
  have na := sN_le a
  have da := sD_le a
  have nb := sN_le b
  have db := sD_le b
  have m1 : m * sD a ≤ 1024 * 256 := Nat.mul_le_mul (by omega) (by omega)
  have m2 : sN a * 2 ^ k ≤ 256 * 1024 := Nat.mul_le_mul (by omega) (by omega)
  have m3 : 2 ^ k * sD a ≤ 1024 * 256 := Nat.mul_le_mul (by omega) (by omega)
  have m4 : (m * sD a - sN a * 2 ^ k) * 2 ^ a.length ≤ 1024 * 256 * 256 := Nat.mul_le_mul (by omega) pa
  have m5 : 2 ^ k * sD a * 2 ^ b.length ≤ 1024 * 256 * 256 := Nat.mul_le_mul m3 pb
  have m6 : (m * sD a - sN a * 2 ^ k) * 2 ^ a.length * sD b ≤ 1024 * 256 * 256 * 256 := Nat.mul_le_mul m4 (by omega)
  have m7 : sN b * (2 ^ k * sD a * 2 ^ b.length) ≤ 256 * (1024 * 256 * 256) := Nat.mul_le_mul (by omega) m5
  have m8 : 2 ^ k * sD a * 2 ^ b.length * sD b ≤ 1024 * 256 * 256 * 256 := Nat.mul_le_mul m5 (by omega)
  have C4 := Lib.hid (fun W => mpShort_calls (nuF a b m (2 ^ k)) (deF a b (2 ^ k)) (by unfold nuF; omega) (by unfold deF; omega) DP W)
  have msub : sN a * 2 ^ k ≤ m * sD a := by
    rcases Nat.lt_or_ge (m * sD a) (sN a * 2 ^ k) with h | h
    · have := (less_iff a hal m k (by omega)).1 h; omega
    · exact h
  have EN : Hid (nuF a b m (2 ^ k) = (m * sD a - sN a * 2 ^ k) * 2 ^ a.length * sD b + sN b * (2 ^ k * sD a * 2 ^ b.length) ∧ deF a b (2 ^ k) = 2 ^ k * sD a * 2 ^ b.length * sD b) := ⟨rfl, rfl⟩
  have L1 : Hid (0 < (addrs A []).length) := by show _ < _; omega
  have L2 : Hid (0 < (addrs B []).length) := by show _ < _; omega
  have hL1 := (List.getElem?_eq_some_iff.1 ha).1
  have hL2 := (List.getElem?_eq_some_iff.1 hb).1
  have GA : Hid ((sls (addrs A []))[fi (m * part k) (addrs A [])]? = some (.string (S a))) := by show _ = _; rw [sls, List.getElem?_map, ha]; rfl
  have GB : Hid ((sls (addrs B []))[fi (m * part k) (addrs A [])]? = some (.string (S b))) := by show _ = _; rw [sls, List.getElem?_map, hb]; rfl
  clear LH hle dA dB h1 h2 h3 hv hn hsi LA LB ha hb hc hB hk DP
  generalize fi (m * part k) (addrs A []) = L at *
  generalize addrs A [] = la at *
  generalize addrs B [] = lb at *
  generalize nuF a b m (2 ^ k) / Nat.gcd (nuF a b m (2 ^ k)) (deF a b (2 ^ k)) = qn at *
  generalize deF a b (2 ^ k) / Nat.gcd (nuF a b m (2 ^ k)) (deF a b (2 ^ k)) = qd at *
  generalize nuF a b m (2 ^ k) = NU at *
  generalize deF a b (2 ^ k) = DE at *
  generalize 2 ^ k = D at *
  have pa2 : (2 : Int) ^ a.length = ((2 ^ a.length : Nat) : Int) := by rw [Int.natCast_pow]; rfl
  have pb2 : (2 : Int) ^ b.length = ((2 ^ b.length : Nat) : Int) := by rw [Int.natCast_pow]; rfl
  have pa3 : (2 : Int) ^ (S a).size = ((2 ^ a.length : Nat) : Int) := pa2
  have pb3 : (2 : Int) ^ (S b).size = ((2 ^ b.length : Nat) : Int) := pb2
  have hza : ((S a).size : Int) = a.length := rfl
  have hzb : ((S b).size : Int) = b.length := rfl
  have sza : (S a).size ≤ 8 := al
  have szb : (S b).size ≤ 8 := bl
  have ma : min (S a).size 64 = a.length := by show min a.length 64 = _; omega
  have mb : min (S b).size 64 = b.length := by show min b.length 64 = _; omega
  generalize 2 ^ a.length = Fa at *
  generalize 2 ^ b.length = Fb at *
  generalize sN a = san at *
  generalize sD a = sad at *
  generalize sN b = sbn at *
  generalize sD b = sbd at *
  have e1 : (m : Int) * sad = ((m * sad : Nat) : Int) := (Int.natCast_mul _ _).symm
  have e2 : (san : Int) * D = ((san * D : Nat) : Int) := (Int.natCast_mul _ _).symm
  have e3 : (D : Int) * sad = ((D * sad : Nat) : Int) := (Int.natCast_mul _ _).symm
  have e4 : ((m * sad : Nat) : Int) - ((san * D : Nat) : Int) = ((m * sad - san * D : Nat) : Int) := (Int.natCast_sub msub).symm
  have e5 : ((m * sad - san * D : Nat) : Int) * Fa = (((m * sad - san * D) * Fa : Nat) : Int) := (Int.natCast_mul _ _).symm
  have e6 : ((D * sad : Nat) : Int) * Fb = ((D * sad * Fb : Nat) : Int) := (Int.natCast_mul _ _).symm
  have e7 : (((m * sad - san * D) * Fa : Nat) : Int) * sbd = (((m * sad - san * D) * Fa * sbd : Nat) : Int) := (Int.natCast_mul _ _).symm
  have e8 : (sbn : Int) * ((D * sad * Fb : Nat) : Int) = ((sbn * (D * sad * Fb) : Nat) : Int) := (Int.natCast_mul _ _).symm
  have e9 : ((D * sad * Fb : Nat) : Int) * sbd = ((D * sad * Fb * sbd : Nat) : Int) := (Int.natCast_mul _ _).symm
  have e10 : (((m * sad - san * D) * Fa * sbd : Nat) : Int) + ((sbn * (D * sad * Fb) : Nat) : Int) = (NU : Int) := by rw [EN.out.1]; exact (Int.natCast_add _ _).symm
  have e11 : ((D * sad * Fb * sbd : Nat) : Int) = (DE : Int) := by rw [EN.out.2]
  have n1 : (NU : Int) ≤ 1099511627776 := by rw [← e10]; omega
  rw [e11] at e9
  have n2 : (DE : Int) ≤ 1099511627776 := by rw [← e11]; omega
  clear EN e11
  generalize D * sad * Fb * sbd = x8 at *
  generalize sbn * (D * sad * Fb) = x7 at *
  generalize (m * sad - san * D) * Fa * sbd = x6 at *
  generalize D * sad * Fb = x5 at *
  generalize (m * sad - san * D) * Fa = x4 at *
  generalize m * sad - san * D = x9 at *
  generalize D * sad = x3 at *
  generalize san * D = x2 at *
  generalize m * sad = x1 at *
  have q1 : (x1 : Int) ≤ 1099511627776 := by omega
  have q2 : (x2 : Int) ≤ 1099511627776 := by omega
  have q3 : (x3 : Int) ≤ 1099511627776 := by omega
  have q4 : (x4 : Int) ≤ 1099511627776 := by omega
  have q5 : (x5 : Int) ≤ 1099511627776 := by omega
  have q6 : (x6 : Int) ≤ 1099511627776 := by omega
  have q7 : (x7 : Int) ≤ 1099511627776 := by omega
  have q9 : (x9 : Int) ≤ 1099511627776 := by omega
  have qa : (Fa : Int) ≤ 256 := by omega
  have qb : (Fb : Int) ≤ 256 := by omega
  have l0 : (0 : Int) ≤ L := by omega
  have l1 : (L : Int) < la.length := by omega
  have l2 : (L : Int) < lb.length := by omega
  clear m1 m2 m3 m4 m5 m6 m7 m8 na da nb db pa pb msub hL1 hL2 DK hm sa
  generalize tx A = s at *
  generalize tx B = t at *
  obtain ⟨X0, b0, b1, b2⟩ := box3_facts w (.cells #[.string s, .string t] 25) (.cells #[.int .i64 (m : Int), .int .i64 (D : Int)] 27) (.cells #[.int .i64 0, .int .i64 0] 27)
  have X0 := Lib.hid X0
  have T0 : Hid (Two _ (w.heap.size + 1 + 1) 27) := ⟨_, _, b2⟩
  have B0 := Lib.hid b0
  have B1 := Lib.hid b1
  obtain ⟨c0, c1⟩ := cells_of b0
  obtain ⟨c2, c3⟩ := cells_of b1
  clear b0 b1 b2
  go_enter Tryz.func29, Tryz.ntmps29
  go_wp2_with fail
  generalize ((w.alloc (.cells #[.string s, .string t] 25)).alloc (.cells #[.int .i64 (m : Int), .int .i64 (D : Int)] 27)).alloc (.cells #[.int .i64 0, .int .i64 0] 27) = W at *
  refine (C1.out _).mono ?_
  rintro e w1 ⟨rfl, x1'⟩
  have X1 := Lib.hid (X0.out.trans x1')
  have T1 := Lib.hid (T0.out.ext x1')
  have B1 := Lib.hid (x1'.at B1.out)
  obtain ⟨c0, c1⟩ := cells_of (x1'.at B0.out)
  clear x1' c2 c3
  go_wp2_with fail
  rw [show Op.load 9 (Operand.tmp 20) = shy (Op.load 9 (Operand.tmp 20)) from rfl, show Op.load 9 (Operand.tmp 26) = shy (Op.load 9 (Operand.tmp 26)) from rfl]
  go_region_held3 (fun w' => w'.cell? ⟨w.heap.size, 0, none⟩ = some (.string s) ∧ w'.cell? ⟨w.heap.size, 1, none⟩ = some (.string t) ∧ Ext w1 w')
    (first | with_reducible exact cells2 c0 c1 (Ext.refl _).drew | with_reducible exact cells2 c0 c1 y3 | with_reducible exact cells2 c0 c1 y2 | fail)
    (first
      | (go_at_call_of 38 (Value.string s); refine (C2.out _).mono ?_; rintro e w2 ⟨v2, rfl, o2, hx2⟩; obtain ⟨A2, p2, rfl, _, rd2⟩ := o2.reads; rw [sls_length] at rd2 ⊢; obtain ⟨ad2, rfl, ca2⟩ := rd2 L1.out; have k2 := ca2 L _ GA.out; have y2 := (Ext.refl w1).drew.trans hx2)
      | (go_at_call_of 38 (Value.string t); refine (C3.out _).mono ?_; rintro e w3 ⟨v3, rfl, o3, hx3⟩; obtain ⟨A3, p3, rfl, _, rd3⟩ := o3.reads; rw [sls_length] at rd3 ⊢; obtain ⟨ad3, rfl, ca3⟩ := rd3 L2.out; have k3 := ca3 L _ GB.out; have k2 := hx3.cell k2; have y3 := y2.trans hx3)
      | fail)
  all_goals
    have X3 := Lib.hid (X1.out.trans y3)
    have T3 := Lib.hid (T1.out.ext y3)
    have B3 := Lib.hid (y3.at B1.out)
    clear y2 y3 o2 o3 hx2 hx3 k2 k3 c0 c1 rd2 rd3 ca2 ca3
    go_wp2_with fail
    refine (M1.out _).mono ?_
    rintro e w4 ⟨rfl, x4'⟩
    have X4 := Lib.hid (X3.out.trans x4')
    have T4 := Lib.hid (T3.out.ext x4')
    have B4 := Lib.hid (x4'.at B3.out)
    clear x4'
    go_wp2_with fail
    refine (M2.out _).mono ?_
    rintro e w5 ⟨rfl, x5'⟩
    have xa := ((Ext.refl w5).alloc (.cells #[.int .i64 (san : Nat), .int .i64 (sad : Nat)] 27)).alloc (.cells #[.int .i64 (sbn : Nat), .int .i64 (sbd : Nat)] 27)
    have X5 := Lib.hid (X4.out.trans (x5'.trans xa))
    have T5 := Lib.hid (T4.out.ext (x5'.trans xa))
    obtain ⟨g0, g1⟩ := cells_of ((x5'.trans xa).at B4.out)
    obtain ⟨g2, g3⟩ := cells_of (((Ext.refl _).alloc (.cells #[.int .i64 (sbn : Nat), .int .i64 (sbd : Nat)] 27)).at (heap_alloc_new w5 (.cells #[.int .i64 (san : Nat), .int .i64 (sad : Nat)] 27)))
    obtain ⟨g4, g5⟩ := cells_of (show ((w5.alloc (.cells #[.int .i64 (san : Nat), .int .i64 (sad : Nat)] 27)).alloc (.cells #[.int .i64 (sbn : Nat), .int .i64 (sbd : Nat)] 27)).heap[w5.heap.size + 1]? = some (.cells #[.int .i64 (sbn : Nat), .int .i64 (sbd : Nat)] 27) from by
      have := heap_alloc_new (w5.alloc (.cells #[.int .i64 (san : Nat), .int .i64 (sad : Nat)] 27)) (.cells #[.int .i64 (sbn : Nat), .int .i64 (sbd : Nat)] 27)
      simpa using this)
    clear x5' xa
    go_wp2_with fail
    generalize (w5.alloc (.cells #[.int .i64 (san : Nat), .int .i64 (sad : Nat)] 27)).alloc (.cells #[.int .i64 (sbn : Nat), .int .i64 (sbd : Nat)] 27) = W5 at *
    go_quiet (fail)
    have xd : Ext W5 (W5.drewN nq) := (Ext.refl _).drewN _
    have X6 := Lib.hid (X5.out.trans xd)
    have T6 := Lib.hid (T5.out.ext xd)
    have g0 := xd.cell g0
    have g1 := xd.cell g1
    have g2 := xd.cell g2
    have g3 := xd.cell g3
    have g4 := xd.cell g4
    have g5 := xd.cell g5
    clear xd
    generalize W5.drewN nq = W6 at *
    go_wp2_with fail
    refine (C4.out _).mono ?_
    rintro e w7 ⟨rfl, x7'⟩
    have X7 := Lib.hid (X6.out.trans x7')
    have T7 := Lib.hid (T6.out.ext x7')
    obtain ⟨u, v, k0, k1, f0, f1⟩ := T7.out.facts
    clear x7'
    go_wp2_with fail
    have HH := set2_heap T7.out (.int .i64 qn) (.int .i64 qd)
    have XX := X7.out.set2 (g := w.heap.size + 1 + 1) (by omega) (.int .i64 qn) (.int .i64 qd)
    change bodyPost _ _ _ _ _ (N.set2 w7 (w.heap.size + 1 + 1) (.int .i64 qn) (.int .i64 qd))
    obtain ⟨hc0, hc1⟩ := cells_of HH
    generalize N.set2 w7 (w.heap.size + 1 + 1) (.int .i64 qn) (.int .i64 qd) = W3 at *
    exact bodyPost_ret (v := .agg #[.int .i64 qn, .int .i64 qd]) (by simp [results, Tryz.results29, go_sem, hc0, hc1]) rfl ⟨rfl, XX⟩
set_option maxHeartbeats 3200000 in
set_option maxRecDepth 100000 in
theorem specVal_noPair (s t : ByteArray) (n d : Int) (h : ¬ Good s t) (w : World) :
    Calls Tryz.prog 7 #[.agg #[.string s, .string t], .agg #[.int .i64 n, .int .i64 d]] w fun e w' => e = .returned (FrV none) ∧ Ext w w' := by
  obtain ⟨X0, b0, b1, b2⟩ := box3_facts w (.cells #[.string s, .string t] 25) (.cells #[.int .i64 n, .int .i64 d] 27) (.cells #[.int .i64 0, .int .i64 0] 27)
  have X0 := Lib.hid X0
  have T0 : Hid (Two _ (w.heap.size + 1 + 1) 27) := ⟨_, _, b2⟩
  have C1 := Lib.hid (fun W => prGood_no s t h W)
  obtain ⟨c0, c1⟩ := cells_of b0
  clear h b1 b2
  show Calls _ _ _ _ (fun e w' => e = .returned (.tuple #[.agg #[.int .i64 0, .int .i64 0], .bool false]) ∧ Ext w w')
  go_enter Tryz.func7, Tryz.ntmps7
  go_wp2_with fail
  generalize ((w.alloc (.cells #[.string s, .string t] 25)).alloc (.cells #[.int .i64 n, .int .i64 d] 27)).alloc (.cells #[.int .i64 0, .int .i64 0] 27) = W at *
  refine (C1.out _).mono ?_
  rintro e w1 ⟨rfl, x1⟩
  have X1 := Lib.hid (X0.out.trans x1)
  have T1 := Lib.hid (T0.out.ext x1)
  obtain ⟨u, v, k0, k1, f0, f1⟩ := T1.out.facts
  clear x1
  go_wp2_with fail
  have HH := set2_heap T1.out (.int .i64 0) (.int .i64 0)
  have XX := X1.out.set2 (g := w.heap.size + 1 + 1) (by omega) (.int .i64 0) (.int .i64 0)
  change bodyPost _ _ _ _ _ (N.set2 _ (w.heap.size + 1 + 1) (.int .i64 0) (.int .i64 0))
  obtain ⟨hc0, hc1⟩ := cells_of HH
  generalize N.set2 _ (w.heap.size + 1 + 1) (.int .i64 0) (.int .i64 0) = W3 at *
  exact bodyPost_ret (v := .tuple #[.agg #[.int .i64 0, .int .i64 0], .bool false]) (by simp [results, Tryz.results7, go_sem, hc0, hc1]) rfl ⟨rfl, XX⟩
set_option maxHeartbeats 3200000 in
set_option maxRecDepth 100000 in
theorem specVal_noFrac (A B : Tr) (hc : A.carets = B.carets) (hB : B.carets ≤ 8) (n d : Int) (h : goodB n d = false) (w : World) :
    Calls Tryz.prog 7 #[.agg #[.string (tx A), .string (tx B)], .agg #[.int .i64 n, .int .i64 d]] w fun e w' => e = .returned (FrV none) ∧ Ext w w' := by
  have C1 := Lib.hid (fun W => prGood_yes A B hc hB W)
  generalize tx A = s at *
  generalize tx B = t at *
  obtain ⟨X0, b0, b1, b2⟩ := box3_facts w (.cells #[.string s, .string t] 25) (.cells #[.int .i64 n, .int .i64 d] 27) (.cells #[.int .i64 0, .int .i64 0] 27)
  have X0 := Lib.hid X0
  have T0 : Hid (Two _ (w.heap.size + 1 + 1) 27) := ⟨_, _, b2⟩
  have B1 := Lib.hid b1
  have C2 := Lib.hid (fun W => mpGood_calls n d W)
  rw [h] at C2
  obtain ⟨c0, c1⟩ := cells_of b0
  clear h b1 b2
  show Calls _ _ _ _ (fun e w' => e = .returned (.tuple #[.agg #[.int .i64 0, .int .i64 0], .bool false]) ∧ Ext w w')
  go_enter Tryz.func7, Tryz.ntmps7
  go_wp2_with fail
  generalize ((w.alloc (.cells #[.string s, .string t] 25)).alloc (.cells #[.int .i64 n, .int .i64 d] 27)).alloc (.cells #[.int .i64 0, .int .i64 0] 27) = W at *
  refine (C1.out _).mono ?_
  rintro e w1 ⟨rfl, x1⟩
  have X1 := Lib.hid (X0.out.trans x1)
  have T1 := Lib.hid (T0.out.ext x1)
  obtain ⟨c2, c3⟩ := cells_of (x1.at B1.out)
  clear x1
  go_wp2_with fail
  refine (C2.out _).mono ?_
  rintro e w2 ⟨rfl, x2⟩
  have X2 := Lib.hid (X1.out.trans x2)
  have T2 := Lib.hid (T1.out.ext x2)
  obtain ⟨u, v, k0, k1, f0, f1⟩ := T2.out.facts
  clear x2
  go_wp2_with fail
  have HH := set2_heap T2.out (.int .i64 0) (.int .i64 0)
  have XX := X2.out.set2 (g := w.heap.size + 1 + 1) (by omega) (.int .i64 0) (.int .i64 0)
  change bodyPost _ _ _ _ _ (N.set2 _ (w.heap.size + 1 + 1) (.int .i64 0) (.int .i64 0))
  obtain ⟨hc0, hc1⟩ := cells_of HH
  generalize N.set2 _ (w.heap.size + 1 + 1) (.int .i64 0) (.int .i64 0) = W3 at *
  exact bodyPost_ret (v := .tuple #[.agg #[.int .i64 0, .int .i64 0], .bool false]) (by simp [results, Tryz.results7, go_sem, hc0, hc1]) rfl ⟨rfl, XX⟩
set_option maxHeartbeats 3200000 in
set_option maxRecDepth 100000 in
theorem specVal_yes (A B : Tr) (hc : A.carets = B.carets) (hB : B.carets ≤ 8) (m k : Nat) (hk : k ≤ 10) (hm : m ≤ 2 ^ k) (h : goodB m ((2 ^ k : Nat) : Int) = true) (w : World) :
    Calls Tryz.prog 7 #[.agg #[.string (tx A), .string (tx B)], .agg #[.int .i64 m, .int .i64 ((2 ^ k : Nat) : Int)]] w fun e w' => e = .returned (FrV (frF (vaF A B (m * part k)))) ∧ Ext w w' := by
  have hle : m * part k ≤ 1099511627776 := by rw [← part_mul (show k ≤ 40 by omega)]; exact Nat.mul_le_mul_right _ hm
  have hV : vaF A B (m * part k) ≤ 1099511627776 := by
    obtain ⟨a, b, ha, hb, hal, hbl, h1, h2, hv⟩ := carr_facts A B hc (by omega) (m * part k) hle
    rw [hv]; exact (vaL_le a b _ hal hbl h1 h2).1
  have C1 := Lib.hid (fun W => prGood_yes A B hc hB W)
  have C2 := Lib.hid (fun W => mpGood_calls m ((2 ^ k : Nat) : Int) W)
  rw [h] at C2
  have C3 := Lib.hid (fun W => mpValue_calls A B hc hB m k hk hm W)
  have C4 := Lib.hid (fun W => mpIf_calls ((halve 40 (vaF A B (m * part k)) 1099511627776).1 : Nat) ((halve 40 (vaF A B (m * part k)) 1099511627776).2 : Nat) W)
  rw [goodB_halve _ hV] at C4
  have C6 : Hid (∀ W, Calls Tryz.prog 28 #[.agg #[.int .i64 ((halve 40 (vaF A B (m * part k)) 1099511627776).1 : Nat), .int .i64 ((halve 40 (vaF A B (m * part k)) 1099511627776).2 : Nat)]] W fun e w' => e = .returned (FrV (frF (vaF A B (m * part k)))) ∧ Ext W w') := fun W => (C4.out W).mono (by
    rintro e w' ⟨rfl, x⟩
    refine ⟨?_, x⟩
    unfold frF
    by_cases hd : (halve 40 (vaF A B (m * part k)) 1099511627776).2 ≤ 1024
    · rw [if_pos hd, decide_eq_true hd]; rfl
    · rw [if_neg hd, decide_eq_false hd]; rfl)
  obtain ⟨x, y, b, hF⟩ := FrV_shape (frF (vaF A B (m * part k)))
  clear C4
  rw [hF] at C6 ⊢
  generalize halve 40 (vaF A B (m * part k)) 1099511627776 = z at *
  obtain ⟨q, d⟩ := z
  simp only at C3 C6
  generalize 2 ^ k = D at *
  generalize tx A = s at *
  generalize tx B = t at *
  clear hF hle hV h hc hB hk hm
  obtain ⟨X0, b0, b1, b2⟩ := box3_facts w (.cells #[.string s, .string t] 25) (.cells #[.int .i64 (m : Int), .int .i64 (D : Int)] 27) (.cells #[.int .i64 0, .int .i64 0] 27)
  have X0 := Lib.hid X0
  have T0 : Hid (Two _ (w.heap.size + 1 + 1) 27) := ⟨_, _, b2⟩
  have B0 := Lib.hid b0
  have B1 := Lib.hid b1
  obtain ⟨c0, c1⟩ := cells_of b0
  clear b0 b1 b2
  go_enter Tryz.func7, Tryz.ntmps7
  go_wp2_with fail
  generalize ((w.alloc (.cells #[.string s, .string t] 25)).alloc (.cells #[.int .i64 (m : Int), .int .i64 (D : Int)] 27)).alloc (.cells #[.int .i64 0, .int .i64 0] 27) = W at *
  refine (C1.out _).mono ?_
  rintro e w1 ⟨rfl, x1⟩
  have X1 := Lib.hid (X0.out.trans x1)
  have T1 := Lib.hid (T0.out.ext x1)
  have B0 := Lib.hid (x1.at B0.out)
  have B1 := Lib.hid (x1.at B1.out)
  obtain ⟨c2, c3⟩ := cells_of B1.out
  clear x1 c0 c1
  go_wp2_with fail
  refine (C2.out _).mono ?_
  rintro e w2 ⟨rfl, x2⟩
  have X2 := Lib.hid (X1.out.trans x2)
  have T2 := Lib.hid (T1.out.ext x2)
  obtain ⟨c0, c1⟩ := cells_of (x2.at B0.out)
  obtain ⟨c2, c3⟩ := cells_of (x2.at B1.out)
  clear x2
  go_wp2_with fail
  refine (C3.out _).mono ?_
  rintro e w3 ⟨rfl, x3⟩
  have X3 := Lib.hid (X2.out.trans x3)
  have T3 := Lib.hid (T2.out.ext x3)
  clear x3 c0 c1 c2 c3
  go_wp2_with fail
  refine (C6.out _).mono ?_
  rintro e w4 ⟨rfl, x4⟩
  have X4 := Lib.hid (X3.out.trans x4)
  have T4 := Lib.hid (T3.out.ext x4)
  obtain ⟨u, v, k0, k1, f0, f1⟩ := T4.out.facts
  clear x4
  go_wp2_with fail
  have HH := set2_heap T4.out (.int .i64 x) (.int .i64 y)
  have XX := X4.out.set2 (g := w.heap.size + 1 + 1) (by omega) (.int .i64 x) (.int .i64 y)
  change bodyPost _ _ _ _ _ (N.set2 _ (w.heap.size + 1 + 1) (.int .i64 x) (.int .i64 y))
  obtain ⟨hc0, hc1⟩ := cells_of HH
  generalize N.set2 _ (w.heap.size + 1 + 1) (.int .i64 x) (.int .i64 y) = W3 at *
  exact bodyPost_ret (v := .tuple #[.agg #[.int .i64 x, .int .i64 y], .bool b]) (by simp [results, Tryz.results7, go_sem, hc0, hc1]) rfl ⟨rfl, XX⟩
end Go.Proofs.YtgnepbogadfinaaGreatDoor.N
