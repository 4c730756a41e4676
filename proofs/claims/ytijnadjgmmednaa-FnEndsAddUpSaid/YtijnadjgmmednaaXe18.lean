import Derived.Test.YtijnadjgmmednaaXe8
import Derived.Test.YtijnadjgmmednaaXe16
/- A part of the proof: lemmas that later parts use. -/
set_option linter.unusedVariables false
set_option linter.unusedSimpArgs false
namespace Go.Proofs.Ytijnadjgmmednaa.N
open Go.RowKit
set_option maxHeartbeats 6400000 in
set_option maxRecDepth 100000 in
theorem mpValue_calls (A B : Tr) (hc : A.carets = B.carets) (hB : B.carets ≤ 8) (m k : Nat) (hk : k ≤ 10) (hm : m ≤ 2 ^ k) (w : World) :
    Calls Try.prog 79 #[.agg #[.string (tx A), .string (tx B)], .agg #[.int .i64 m, .int .i64 ((2 ^ k : Nat) : Int)]] w fun e w' => e = .returned (.agg #[.int .i64 ((halve 40 (vaF A B (m * part k)) 1099511627776).1 : Nat), .int .i64 ((halve 40 (vaF A B (m * part k)) 1099511627776).2 : Nat)]) ∧ Ext w w' := by
  have hle : m * part k ≤ 1099511627776 := by rw [← part_mul (show k ≤ 40 by omega)]; exact Nat.mul_le_mul_right _ hm
  have dA := A.depth_le
  have dB := B.depth_le
  have C1 := Lib.hid (fun W => mpLeaf_calls A (by omega) (by omega) m k hk hm W)
  have C2 := Lib.hid (fun W => trAddresses_calls A [] ⟨#[]⟩ W (by omega) (by omega) (by simp; omega) rfl)
  have C3 := Lib.hid (fun W => trAddresses_calls B [] ⟨#[]⟩ W (by omega) (by omega) (by simp; omega) rfl)
  obtain ⟨a, b, ha, hb, hal, hbl, h1, h2, hv⟩ := carr_facts A B hc (by omega) (m * part k) hle
  have h3 := addrs_chn A [] (by simp; omega)
  rw [show plA ([] : List UInt8) = 0 from rfl, show (0 : Nat) + part ([] : List UInt8).length = 1099511627776 by decide] at h3
  have LA := addrs_length A []
  have LB := addrs_length B []
  have hn : addrs A [] ≠ [] := fun h => by rw [h] at LA; simp at LA
  have hsi := si_fi (m * part k) (addrs A []) 0 _ 0 0 h3 hn (Nat.zero_le _) hle
  rw [Nat.zero_add] at hsi
  rw [hsi] at C1
  have al : a.length ≤ 8 := by have := addrs_depth A [] a (List.mem_of_getElem? ha); simp at this; omega
  have bl : b.length ≤ 8 := by have := addrs_depth B [] b (List.mem_of_getElem? hb); simp at this; omega
  have ab := addrs_bits A [] a (fun c h => by cases h) (List.mem_of_getElem? ha)
  have bb := addrs_bits B [] b (fun c h => by cases h) (List.mem_of_getElem? hb)
  have M1 := Lib.hid (fun W => mpOf_calls a ab hal W)
  have M2 := Lib.hid (fun W => mpOf_calls b bb hbl W)
  have LH := low_halve a b m k (by omega) (by omega) hk h1
  rw [hv, ← LH]
  have DP := deF_pos a b k
  have sa := sD_pos a
  have DK : 2 ^ k ≤ 1024 := Nat.pow_le_pow_right (n := 2) (by omega) hk
  have pa : 2 ^ a.length ≤ 256 := Nat.pow_le_pow_right (n := 2) (by omega) al
  have pb : 2 ^ b.length ≤ 256 := Nat.pow_le_pow_right (n := 2) (by omega) bl
  have na := sN_le a
  have da := sD_le a
  have nb := sN_le b
  have db := sD_le b
  have m1 : m * sD a ≤ 1024 * 256 := Nat.mul_le_mul (by omega) (by omega)
  have m2 : sN a * 2 ^ k ≤ 256 * 1024 := Nat.mul_le_mul (by omega) (by omega)
  have m3 : 2 ^ k * sD a ≤ 1024 * 256 := Nat.mul_le_mul (by omega) (by omega)
  have m4 : (m * sD a - sN a * 2 ^ k) * 2 ^ a.length ≤ 1024 * 256 * 256 := Nat.mul_le_mul (by omega) pa
  have m5 : 2 ^ k * sD a * 2 ^ b.length ≤ 1024 * 256 * 256 := Nat.mul_le_mul m3 pb
  have m6 : (m * sD a - sN a * 2 ^ k) * 2 ^ a.length * sD b ≤ 1024 * 256 * 256 * 256 := Nat.mul_le_mul m4 (by omega)
  have m7 : sN b * (2 ^ k * sD a * 2 ^ b.length) ≤ 256 * (1024 * 256 * 256) := Nat.mul_le_mul (by omega) m5
  have m8 : 2 ^ k * sD a * 2 ^ b.length * sD b ≤ 1024 * 256 * 256 * 256 := Nat.mul_le_mul m5 (by omega)
  have C4 := Lib.hid (fun W => mpShort_calls (nuF a b m (2 ^ k)) (deF a b (2 ^ k)) (by unfold nuF; omega) (by unfold deF; omega) DP W)
  have msub : sN a * 2 ^ k ≤ m * sD a := by
    rcases Nat.lt_or_ge (m * sD a) (sN a * 2 ^ k) with h | h
    · have := (less_iff a hal m k (by omega)).1 h; omega
    · exact h
  have EN : Hid (nuF a b m (2 ^ k) = (m * sD a - sN a * 2 ^ k) * 2 ^ a.length * sD b + sN b * (2 ^ k * sD a * 2 ^ b.length) ∧ deF a b (2 ^ k) = 2 ^ k * sD a * 2 ^ b.length * sD b) := ⟨rfl, rfl⟩
  have L1 : Hid (0 < (addrs A []).length) := by show _ < _; omega
  have L2 : Hid (0 < (addrs B []).length) := by show _ < _; omega
  have hL1 := (List.getElem?_eq_some_iff.1 ha).1
  have hL2 := (List.getElem?_eq_some_iff.1 hb).1
  have GA : Hid ((sls (addrs A []))[fi (m * part k) (addrs A [])]? = some (.string (S a))) := by show _ = _; rw [sls, List.getElem?_map, ha]; rfl
  have GB : Hid ((sls (addrs B []))[fi (m * part k) (addrs A [])]? = some (.string (S b))) := by show _ = _; rw [sls, List.getElem?_map, hb]; rfl
  clear LH hle dA dB h1 h2 h3 hv hn hsi LA LB ha hb hc hB hk DP
  generalize fi (m * part k) (addrs A []) = L at *
  generalize addrs A [] = la at *
  generalize addrs B [] = lb at *
  generalize nuF a b m (2 ^ k) / Nat.gcd (nuF a b m (2 ^ k)) (deF a b (2 ^ k)) = qn at *
  generalize deF a b (2 ^ k) / Nat.gcd (nuF a b m (2 ^ k)) (deF a b (2 ^ k)) = qd at *
  generalize nuF a b m (2 ^ k) = NU at *
  generalize deF a b (2 ^ k) = DE at *
  generalize 2 ^ k = D at *
  have pa2 : (2 : Int) ^ a.length = ((2 ^ a.length : Nat) : Int) := by rw [Int.natCast_pow]; rfl
  have pb2 : (2 : Int) ^ b.length = ((2 ^ b.length : Nat) : Int) := by rw [Int.natCast_pow]; rfl
  have pa3 : (2 : Int) ^ (S a).size = ((2 ^ a.length : Nat) : Int) := pa2
  have pb3 : (2 : Int) ^ (S b).size = ((2 ^ b.length : Nat) : Int) := pb2
  have hza : ((S a).size : Int) = a.length := rfl
  have hzb : ((S b).size : Int) = b.length := rfl
  have sza : (S a).size ≤ 8 := al
  have szb : (S b).size ≤ 8 := bl
  have ma : min (S a).size 64 = a.length := by show min a.length 64 = _; omega
  have mb : min (S b).size 64 = b.length := by show min b.length 64 = _; omega
  generalize 2 ^ a.length = Fa at *
  generalize 2 ^ b.length = Fb at *
  generalize sN a = san at *
  generalize sD a = sad at *
  generalize sN b = sbn at *
  generalize sD b = sbd at *
  have e1 : (m : Int) * sad = ((m * sad : Nat) : Int) := (Int.natCast_mul _ _).symm
  have e2 : (san : Int) * D = ((san * D : Nat) : Int) := (Int.natCast_mul _ _).symm
  have e3 : (D : Int) * sad = ((D * sad : Nat) : Int) := (Int.natCast_mul _ _).symm
  have e4 : ((m * sad : Nat) : Int) - ((san * D : Nat) : Int) = ((m * sad - san * D : Nat) : Int) := (Int.natCast_sub msub).symm
  have e5 : ((m * sad - san * D : Nat) : Int) * Fa = (((m * sad - san * D) * Fa : Nat) : Int) := (Int.natCast_mul _ _).symm
  have e6 : ((D * sad : Nat) : Int) * Fb = ((D * sad * Fb : Nat) : Int) := (Int.natCast_mul _ _).symm
  have e7 : (((m * sad - san * D) * Fa : Nat) : Int) * sbd = (((m * sad - san * D) * Fa * sbd : Nat) : Int) := (Int.natCast_mul _ _).symm
  have e8 : (sbn : Int) * ((D * sad * Fb : Nat) : Int) = ((sbn * (D * sad * Fb) : Nat) : Int) := (Int.natCast_mul _ _).symm
  have e9 : ((D * sad * Fb : Nat) : Int) * sbd = ((D * sad * Fb * sbd : Nat) : Int) := (Int.natCast_mul _ _).symm
  have e10 : (((m * sad - san * D) * Fa * sbd : Nat) : Int) + ((sbn * (D * sad * Fb) : Nat) : Int) = (NU : Int) := by rw [EN.out.1]; exact (Int.natCast_add _ _).symm
  have e11 : ((D * sad * Fb * sbd : Nat) : Int) = (DE : Int) := by rw [EN.out.2]
  have n1 : (NU : Int) ≤ 1099511627776 := by rw [← e10]; omega
  rw [e11] at e9
  have n2 : (DE : Int) ≤ 1099511627776 := by rw [← e11]; omega
  clear EN e11
  generalize D * sad * Fb * sbd = x8 at *
  generalize sbn * (D * sad * Fb) = x7 at *
  generalize (m * sad - san * D) * Fa * sbd = x6 at *
  generalize D * sad * Fb = x5 at *
  generalize (m * sad - san * D) * Fa = x4 at *
  generalize m * sad - san * D = x9 at *
  generalize D * sad = x3 at *
  generalize san * D = x2 at *
  generalize m * sad = x1 at *
  have q1 : (x1 : Int) ≤ 1099511627776 := by omega
  have q2 : (x2 : Int) ≤ 1099511627776 := by omega
  have q3 : (x3 : Int) ≤ 1099511627776 := by omega
  have q4 : (x4 : Int) ≤ 1099511627776 := by omega
  have q5 : (x5 : Int) ≤ 1099511627776 := by omega
  have q6 : (x6 : Int) ≤ 1099511627776 := by omega
  have q7 : (x7 : Int) ≤ 1099511627776 := by omega
  have q9 : (x9 : Int) ≤ 1099511627776 := by omega
  have qa : (Fa : Int) ≤ 256 := by omega
  have qb : (Fb : Int) ≤ 256 := by omega
  have l0 : (0 : Int) ≤ L := by omega
  have l1 : (L : Int) < la.length := by omega
  have l2 : (L : Int) < lb.length := by omega
  clear m1 m2 m3 m4 m5 m6 m7 m8 na da nb db pa pb msub hL1 hL2 DK hm sa
  generalize tx A = s at *
  generalize tx B = t at *
  obtain ⟨X0, b0, b1, b2⟩ := box3_facts w (.cells #[.string s, .string t] 25) (.cells #[.int .i64 (m : Int), .int .i64 (D : Int)] 36) (.cells #[.int .i64 0, .int .i64 0] 36)
  have X0 := Lib.hid X0
  have T0 : Hid (Two _ (w.heap.size + 1 + 1) 36) := ⟨_, _, b2⟩
  have B0 := Lib.hid b0
  have B1 := Lib.hid b1
  obtain ⟨c0, c1⟩ := cells_of b0
  obtain ⟨c2, c3⟩ := cells_of b1
  clear b0 b1 b2
  go_enter Try.func79, Try.ntmps79
  go_wp2_with fail
  generalize ((w.alloc (.cells #[.string s, .string t] 25)).alloc (.cells #[.int .i64 (m : Int), .int .i64 (D : Int)] 36)).alloc (.cells #[.int .i64 0, .int .i64 0] 36) = W at *
  refine (C1.out _).mono ?_
  rintro e w1 ⟨rfl, x1'⟩
  have X1 := Lib.hid (X0.out.trans x1')
  have T1 := Lib.hid (T0.out.ext x1')
  have B1 := Lib.hid (x1'.at B1.out)
  obtain ⟨c0, c1⟩ := cells_of (x1'.at B0.out)
  clear x1' c2 c3
  go_wp2_with fail
  rw [show Op.load 9 (Operand.tmp 20) = shy (Op.load 9 (Operand.tmp 20)) from rfl, show Op.load 9 (Operand.tmp 26) = shy (Op.load 9 (Operand.tmp 26)) from rfl]
  go_region_held3 (fun w' => w'.cell? ⟨w.heap.size, 0, none⟩ = some (.string s) ∧ w'.cell? ⟨w.heap.size, 1, none⟩ = some (.string t) ∧ Ext w1 w')
    (first | with_reducible exact cells2 c0 c1 (Ext.refl _).drew | with_reducible exact cells2 c0 c1 y3 | with_reducible exact cells2 c0 c1 y2 | fail)
    (first
      | (go_at_call_of 125 (Value.string s); refine (C2.out _).mono ?_; rintro e w2 ⟨v2, rfl, o2, hx2⟩; obtain ⟨A2, p2, rfl, _, rd2⟩ := o2.reads; rw [sls_length] at rd2 ⊢; obtain ⟨ad2, rfl, ca2⟩ := rd2 L1.out; have k2 := ca2 L _ GA.out; have y2 := (Ext.refl w1).drew.trans hx2)
      | (go_at_call_of 125 (Value.string t); refine (C3.out _).mono ?_; rintro e w3 ⟨v3, rfl, o3, hx3⟩; obtain ⟨A3, p3, rfl, _, rd3⟩ := o3.reads; rw [sls_length] at rd3 ⊢; obtain ⟨ad3, rfl, ca3⟩ := rd3 L2.out; have k3 := ca3 L _ GB.out; have k2 := hx3.cell k2; have y3 := y2.trans hx3)
      | fail)
  all_goals
    have X3 := Lib.hid (X1.out.trans y3)
    have T3 := Lib.hid (T1.out.ext y3)
    have B3 := Lib.hid (y3.at B1.out)
    clear y2 y3 o2 o3 hx2 hx3 k2 k3 c0 c1 rd2 rd3 ca2 ca3
    go_wp2_with fail
    refine (M1.out _).mono ?_
    rintro e w4 ⟨rfl, x4'⟩
    have X4 := Lib.hid (X3.out.trans x4')
    have T4 := Lib.hid (T3.out.ext x4')
    have B4 := Lib.hid (x4'.at B3.out)
    clear x4'
    go_wp2_with fail
    refine (M2.out _).mono ?_
    rintro e w5 ⟨rfl, x5'⟩
    have xa := ((Ext.refl w5).alloc (.cells #[.int .i64 (san : Nat), .int .i64 (sad : Nat)] 36)).alloc (.cells #[.int .i64 (sbn : Nat), .int .i64 (sbd : Nat)] 36)
    have X5 := Lib.hid (X4.out.trans (x5'.trans xa))
    have T5 := Lib.hid (T4.out.ext (x5'.trans xa))
    obtain ⟨g0, g1⟩ := cells_of ((x5'.trans xa).at B4.out)
    obtain ⟨g2, g3⟩ := cells_of (((Ext.refl _).alloc (.cells #[.int .i64 (sbn : Nat), .int .i64 (sbd : Nat)] 36)).at (heap_alloc_new w5 (.cells #[.int .i64 (san : Nat), .int .i64 (sad : Nat)] 36)))
    obtain ⟨g4, g5⟩ := cells_of (show ((w5.alloc (.cells #[.int .i64 (san : Nat), .int .i64 (sad : Nat)] 36)).alloc (.cells #[.int .i64 (sbn : Nat), .int .i64 (sbd : Nat)] 36)).heap[w5.heap.size + 1]? = some (.cells #[.int .i64 (sbn : Nat), .int .i64 (sbd : Nat)] 36) from by
      have := heap_alloc_new (w5.alloc (.cells #[.int .i64 (san : Nat), .int .i64 (sad : Nat)] 36)) (.cells #[.int .i64 (sbn : Nat), .int .i64 (sbd : Nat)] 36)
      simpa using this)
    clear x5' xa
    go_wp2_with fail
    generalize (w5.alloc (.cells #[.int .i64 (san : Nat), .int .i64 (sad : Nat)] 36)).alloc (.cells #[.int .i64 (sbn : Nat), .int .i64 (sbd : Nat)] 36) = W5 at *
    go_quiet (fail)
    have xd : Ext W5 (W5.drewN nq) := (Ext.refl _).drewN _
    have X6 := Lib.hid (X5.out.trans xd)
    have T6 := Lib.hid (T5.out.ext xd)
    have g0 := xd.cell g0
    have g1 := xd.cell g1
    have g2 := xd.cell g2
    have g3 := xd.cell g3
    have g4 := xd.cell g4
    have g5 := xd.cell g5
    clear xd
    generalize W5.drewN nq = W6 at *
    go_wp2_with fail
    refine (C4.out _).mono ?_
    rintro e w7 ⟨rfl, x7'⟩
    have X7 := Lib.hid (X6.out.trans x7')
    have T7 := Lib.hid (T6.out.ext x7')
    obtain ⟨u, v, k0, k1, f0, f1⟩ := T7.out.facts
    clear x7'
    go_wp2_with fail
    have HH := set2_heap T7.out (.int .i64 qn) (.int .i64 qd)
    have XX := X7.out.set2 (g := w.heap.size + 1 + 1) (by omega) (.int .i64 qn) (.int .i64 qd)
    change bodyPost _ _ _ _ _ (N.set2 w7 (w.heap.size + 1 + 1) (.int .i64 qn) (.int .i64 qd))
    obtain ⟨hc0, hc1⟩ := cells_of HH
    generalize N.set2 w7 (w.heap.size + 1 + 1) (.int .i64 qn) (.int .i64 qd) = W3 at *
    exact bodyPost_ret (v := .agg #[.int .i64 qn, .int .i64 qd]) (by simp [results, Try.results79, go_sem, hc0, hc1]) rfl ⟨rfl, XX⟩
end Go.Proofs.Ytijnadjgmmednaa.N
namespace Go.Proofs.Ytijnadjgmmednaa.N
open Go.RowKit
def nxt (A B : Tr) (x : Nat × Nat) : Nat × Nat := halve 40 (vaF A B (x.1 * (1099511627776 / x.2))) 1099511627776
def seqO (A B : Tr) (x : Nat × Nat) : Nat → Nat × Nat
  | 0 => x
  | j + 1 => nxt A B (seqO A B x j)
def orbT (A B : Tr) (x : Nat × Nat) (n : Nat) : Option (List (Nat × Nat)) := if ∀ j, j ≤ n → (seqO A B x j).2 ≤ 1024 then some ((List.range (n + 1)).map (seqO A B x)) else none
theorem orbT_none {A B : Tr} {x : Nat × Nat} {n j : Nat} (hj : j ≤ n) (h : ¬ (seqO A B x j).2 ≤ 1024) : orbT A B x n = none := by
  unfold orbT
  rw [if_neg (fun k => h (k j hj))]
theorem part_div {k : Nat} (h : k ≤ 40) : 1099511627776 / 2 ^ k = part k := by
  rw [← part_mul h, Nat.mul_div_cancel_left _ (Nat.two_pow_pos k)]
theorem nxt_at (A B : Tr) (m k : Nat) (h : k ≤ 40) : nxt A B (m, 2 ^ k) = halve 40 (vaF A B (m * part k)) 1099511627776 := by
  unfold nxt
  rw [part_div h]
theorem range_map_snoc {α : Type} (f : Nat → α) (n : Nat) : (List.range (n + 1)).map f = (List.range n).map f ++ [f n] := by rw [List.range_succ, List.map_append]; rfl
def FrOk (x : Nat × Nat) : Prop := goodB x.1 x.2 = true
theorem FrOk.form {x : Nat × Nat} (h : FrOk x) : ∃ k, k ≤ 10 ∧ x.2 = 2 ^ k ∧ x.1 ≤ 2 ^ k := by
  obtain ⟨m, k, h1, h2, h3, h4, _⟩ := goodB_true h
  exact ⟨k, h3, by exact_mod_cast h2, by omega⟩
theorem vaF_le (A B : Tr) (hc : A.carets = B.carets) (hB : B.carets ≤ 8) (p : Nat) (hp : p ≤ 1099511627776) : vaF A B p ≤ 1099511627776 := by
  obtain ⟨a, b, ha, hb, hal, hbl, h1, h2, hv⟩ := carr_facts A B hc (by omega) p hp
  rw [hv]; exact (vaL_le a b _ hal hbl h1 h2).1
theorem FrOk.place {x : Nat × Nat} (h : FrOk x) : x.1 * (1099511627776 / x.2) ≤ 1099511627776 := by
  obtain ⟨k, h1, h2, h3⟩ := h.form
  rw [h2, part_div (by omega), ← part_mul (show k ≤ 40 by omega)]
  exact Nat.mul_le_mul_right _ h3
theorem FrOk.next (A B : Tr) (hc : A.carets = B.carets) (hB : B.carets ≤ 8) {x : Nat × Nat} (h : FrOk x) : goodB (nxt A B x).1 (nxt A B x).2 = decide ((nxt A B x).2 ≤ 1024) := goodB_halve _ (vaF_le A B hc hB _ h.place)
theorem FrOk.small {x : Nat × Nat} (h : FrOk x) : x.2 ≤ 1024 := by
  obtain ⟨k, h1, h2, _⟩ := h.form
  rw [h2]; exact Nat.pow_le_pow_right (by omega) h1
theorem row_lit2 (w : World) (base : Nat) (a b : Value) (t : TypeId) (hb : base ≤ w.heap.size) : (w.alloc (.cells #[a, b] t)).ownsRow base t 2 (.slice (some ⟨w.heap.size, 0, none⟩) 1 1) 1 [a, b] :=
  ⟨rfl, .inr ⟨w.heap.size, 1, #[a, b], rfl, hb, heap_alloc_new w _, Nat.le_refl _, by unfold maxLen; omega, rfl, rfl⟩⟩
end Go.Proofs.Ytijnadjgmmednaa.N
namespace Go.Proofs.Ytijnadjgmmednaa.N
open Go.RowKit
theorem boxPF (w : World) (a b c d : Value) (s t : TypeId) :
    Ext w ((w.alloc (.cells #[a, b] s)).alloc (.cells #[c, d] t)) ∧ ((w.alloc (.cells #[a, b] s)).alloc (.cells #[c, d] t)).heap[w.heap.size]? = some (.cells #[a, b] s) ∧ ((w.alloc (.cells #[a, b] s)).alloc (.cells #[c, d] t)).heap[w.heap.size + 1]? = some (.cells #[c, d] t) := by
  have h0 := ((Ext.refl _).alloc (.cells #[c, d] t)).at (heap_alloc_new w (.cells #[a, b] s))
  have h1 := heap_alloc_new (w.alloc (.cells #[a, b] s)) (.cells #[c, d] t)
  rw [show (w.alloc (.cells #[a, b] s)).heap.size = w.heap.size + 1 by simp] at h1
  exact ⟨((Ext.refl w).alloc _).alloc _, h0, h1⟩
set_option maxHeartbeats 6400000 in
set_option maxRecDepth 100000 in
theorem implOO_yes (A B : Tr) (hc : A.carets = B.carets) (hB : B.carets ≤ 8) (x : Nat × Nat) (hx : FrOk x) (n : Nat) (hn : n ≤ 20) (w : World) :
    Calls Try.prog 20 #[.agg #[.string (tx A), .string (tx B)], .agg #[.int .i64 (x.1 : Nat), .int .i64 (x.2 : Nat)], .int .i64 n] w fun e w' => ∃ v, e = .returned (.tuple #[v, .bool (orbT A B x n).isSome]) ∧ w'.ownsRow w.heap.size 36 2 v ((orbT A B x n).getD []).length (frs ((orbT A B x n).getD [])) ∧ Ext w w' := by
  obtain ⟨X2, b3, b4⟩ := boxPF w (.string (tx A)) (.string (tx B)) (.int .i64 (x.1 : Nat)) (.int .i64 (x.2 : Nat)) 25 36
  have X2 := Lib.hid X2
  have B4 := Lib.hid b4
  obtain ⟨c0, c1⟩ := cells_of b3
  have C1 := Lib.hid (fun W => pairOf_yes A B hc hB W)
  have C2 : Hid (∀ W, Calls Try.prog 75 #[.agg #[.int .i64 (x.1 : Nat), .int .i64 (x.2 : Nat)]] W fun e w' => e = .returned (.bool true) ∧ Ext W w') := by
    intro W
    have := isFraction_calls (x.1 : Nat) (x.2 : Nat) W
    unfold FrOk at hx
    rw [hx] at this
    exact this
  have CP : Hid (∀ y : Nat × Nat, FrOk y → ∀ W, Calls Try.prog 66 #[.agg #[.int .i64 (y.1 : Nat), .int .i64 (y.2 : Nat)]] W fun e w' => e = .returned (.int .i64 ((y.1 * (1099511627776 / y.2) : Nat) : Int)) ∧ Ext W w') := by
    intro y hy W
    obtain ⟨k, h1, h2, h3⟩ := hy.form
    have := place_calls y.1 (2 ^ k) (part k) (part_mul (by omega)) h3 (Nat.two_pow_pos k) W
    rw [h2, part_div (by omega)]
    exact this
  have CC := Lib.hid (fun p (hp : p ≤ 1099511627776) pa pb W => carried_calls A B hc (by omega) p hp pa pb W)
  have CF : Hid (∀ y : Nat × Nat, FrOk y → ∀ W, Calls Try.prog 76 #[.int .i64 (vaF A B (y.1 * (1099511627776 / y.2)) : Nat)] W fun e w' => e = .returned (.tuple #[.agg #[.int .i64 ((nxt A B y).1 : Nat), .int .i64 ((nxt A B y).2 : Nat)], .bool (decide ((nxt A B y).2 ≤ 1024))]) ∧ Ext W w') := by
    intro y hy W
    exact fractionAt_calls _ (vaF_le A B hc hB _ hy.place) W
  have NX := Lib.hid (fun (y : Nat × Nat) (hy : FrOk y) => hy.next A B hc hB)
  have S0 : Hid (seqO A B x 0 = x) := rfl
  have SS : Hid (∀ j, seqO A B x (j + 1) = nxt A B (seqO A B x j)) := fun j => rfl
  have NN := Lib.hid (fun j => @orbT_none A B x n j)
  have YY : Hid ((∀ j, j ≤ n → (seqO A B x j).2 ≤ 1024) → orbT A B x n = some ((List.range (n + 1)).map (seqO A B x))) := fun h => by unfold orbT; rw [if_pos h]
  have HX := Lib.hid hx
  have hn' : (n : Int) ≤ 20 := by omega
  generalize orbT A B x n = R at *
  generalize seqO A B x = sq at *
  generalize nxt A B = nx at *
  generalize vaF A B = va at *
  generalize tx A = a at *
  generalize tx B = b at *
  clear hc hB hx b3 b4
  go_enter Try.func20, Try.ntmps20
  go_wp2_with fail
  generalize (w.alloc (.cells #[.string a, .string b] 25)).alloc (.cells #[.int .i64 (x.1 : Nat), .int .i64 (x.2 : Nat)] 36) = W at *
  refine (C1.out _).mono ?_
  rintro e w1 ⟨pa, pb, rfl, rA, rB, x1⟩
  have xa := x1.alloc (.cells #[.pointer pa, .pointer pb] 82)
  have X1 := Lib.hid (X2.out.trans xa)
  have B4 := Lib.hid (xa.at B4.out)
  have B8 := Lib.hid (heap_alloc_new w1 (.cells #[.pointer pa, .pointer pb] 82))
  have RA := Lib.hid (rA.ext ((Ext.refl w1).alloc (.cells #[.pointer pa, .pointer pb] 82)))
  have RB := Lib.hid (rB.ext ((Ext.refl w1).alloc (.cells #[.pointer pa, .pointer pb] 82)))
  obtain ⟨c2, c3⟩ := cells_of B4.out
  clear x1 xa rA rB c0 c1
  go_wp2_with fail
  generalize w1.alloc (.cells #[.pointer pa, .pointer pb] 82) = W1 at *
  refine (C2.out _).mono ?_
  rintro e w2 ⟨rfl, x2⟩
  have X3 := Lib.hid (X1.out.trans x2)
  have B8 := Lib.hid (x2.at B8.out)
  have RA := Lib.hid (RA.out.ext x2)
  have RB := Lib.hid (RB.out.ext x2)
  obtain ⟨c2, c3⟩ := cells_of (x2.at B4.out)
  have LIT := Lib.hid (row_lit2 w2 w2.heap.size (.int .i64 (x.1 : Nat)) (.int .i64 (x.2 : Nat)) 36 (Nat.le_refl _))
  have xl := (Ext.refl w2).alloc (.cells #[.int .i64 (x.1 : Nat), .int .i64 (x.2 : Nat)] 36)
  have XL := Lib.hid xl
  clear x2 xl B4 C1 C2
  go_wp2_with fail
  have E0 : Hid (frs ((List.range (0 + 1)).map sq) = [.int .i64 (x.1 : Nat), .int .i64 (x.2 : Nat)]) := by show _ = _; simp [frs, S0.out]
  go_loopw [36, 10] (fun i v wr => ∃ j : Nat, j ≤ n ∧ i = .int .i64 j ∧ Hid (wr.ownsRow w2.heap.size 36 2 v (j + 1) (frs ((List.range (j + 1)).map sq))) ∧ Hid (∀ i, i ≤ j → FrOk (sq i)) ∧ Hid (Ext w2 wr)) (fun i _ _ => n - (intOf i).toNat)
  case atStart => exact ⟨0, Nat.zero_le _, rfl, (by show World.ownsRow _ _ _ _ _ _ _; rw [E0.out]; exact LIT.out), (fun i hi => by obtain rfl : i = 0 := (by omega); rw [S0.out]; exact HX.out), XL.out⟩
  case round =>
    obtain ⟨j, hj, rfl, HO, HK, HE⟩ := hrel
    by_cases hlt : j < n
    · have h0 : (0 : Int) ≤ j := by omega
      have h1 : (j : Int) < n := by omega
      obtain ⟨g, cap, rfl, hcell⟩ := new_slice_cell HO.out (by omega)
      have hget := frs_get ((List.range (j + 1)).map sq) j (sq j) (by rw [List.getElem?_map, List.getElem?_range (by omega)]; rfl)
      have d0 := hcell _ _ hget.1
      have d1 := hcell _ _ hget.2
      have FJ := HK.out j (Nat.le_refl _)
      have PL := Lib.hid (CP.out (sq j) FJ)
      have CR := Lib.hid (fun W (h : Ext w2 W) => CC.out _ FJ.place pa pb W (RA.out.ext h) (RB.out.ext h))
      have CT := Lib.hid (CF.out (sq j) FJ)
      have NJ := Lib.hid (NX.out (sq j) FJ)
      have SJ := Lib.hid (SS.out j)
      obtain ⟨d2, d3⟩ := cells_of (HE.out.at B8.out)
      obtain ⟨n1, hn1⟩ : ∃ n1 : Nat, j + 1 = n1 := ⟨_, rfl⟩
      have I1 : (n1 : Int) ≤ 21 := by omega
      have I2 : (1 : Int) ≤ n1 := by omega
      have W1' : IntKind.i64.wrap ((n1 : Int) - 1) = (j : Int) := by rw [wrap_ok (by omega)]; omega
      have I3 : (j : Int) < n1 := by omega
      have HN1 := Lib.hid hn1
      have TK := Lib.hid (range_map_snoc sq (j + 1))
      generalize hpl : (sq j).1 * (1099511627776 / (sq j).2) = pl at *
      generalize va pl = vv at *
      generalize nx (sq j) = ny at *
      generalize (sq j).1 = m0 at *
      generalize (sq j).2 = m1 at *
      rw [hn1]
      clear hcell hget hn1 FJ hpl
      go_wp2_with fail
      have KX : ∀ w', Ext wr w' → w'.cell? ⟨w1.heap.size, 0, none⟩ = some (.pointer pa) ∧ w'.cell? ⟨w1.heap.size, 1, none⟩ = some (.pointer pb) ∧ w'.cell? ⟨g, j * 2, none⟩ = some (.int .i64 (m0 : Nat)) ∧ w'.cell? ⟨g, j * 2 + 1, none⟩ = some (.int .i64 (m1 : Nat)) := fun w' h => ⟨h.cell d2, h.cell d3, h.cell d0, h.cell d1⟩
      go_cut [11, 12] from 38 to 50 (fun u d wx => ∃ g, u = .pointer (some ⟨g, 0, none⟩) ∧ d = .bool (decide (ny.2 ≤ 1024)) ∧ wx.heap[g]? = some (.cells #[.int .i64 (ny.1 : Nat), .int .i64 (ny.2 : Nat)] 36) ∧ Ext wr wx)
      case first =>
        go_region_held3 (fun w' => w'.cell? ⟨w1.heap.size, 0, none⟩ = some (.pointer pa) ∧ w'.cell? ⟨w1.heap.size, 1, none⟩ = some (.pointer pb) ∧ w'.cell? ⟨g, j * 2, none⟩ = some (.int .i64 (m0 : Nat)) ∧ w'.cell? ⟨g, j * 2 + 1, none⟩ = some (.int .i64 (m1 : Nat)))
          (first | exact KX _ (Ext.refl _).drew | exact KX _ ((Ext.refl _).alloc _).drew | exact KX _ x3 | exact KX _ (x3.alloc _) | exact KX _ x4 | exact KX _ (x4.alloc _) | exact KX _ x5 | exact KX _ (x5.alloc _) | exact KX _ (x5.set2 hg (.int .i64 (ny.1 : Nat)) (.int .i64 (ny.2 : Nat))) | fail)
          (first
            | (go_at_call 66; refine (PL.out _).mono ?_; rintro e w3 ⟨rfl, hx3⟩; (first | (with_reducible have x3 := (Ext.refl wr).drew.trans hx3) | (have TW := ((Two.new wr (.int .i64 0) (.int .i64 0) 36 rfl).ext (Ext.refl _).drew).ext hx3; have hg := Nat.le_refl wr.heap.size; have x3 := ((Ext.refl wr).alloc _).drew.trans hx3)))
            | (go_at_call 77; (first | ((with_reducible refine (CR.out _ (HE.out.trans x3)).mono ?_); rintro e w4 ⟨rfl, _, hx4⟩; have x4 := x3.trans hx4; (first | (with_reducible have TW := TW.ext hx4) | skip)) | (refine (CR.out _ (HE.out.trans (x3.alloc _))).mono ?_; rintro e w4 ⟨rfl, _, hx4⟩; have TW := (Two.new w3 (.int .i64 0) (.int .i64 0) 36 rfl).ext hx4; have hg := Ext.heap x3; have x4 := (x3.alloc _).trans hx4)))
            | (go_at_call 76; refine (CT.out _).mono ?_; rintro e w5 ⟨rfl, hx5⟩; (first | (with_reducible have x5 := x4.trans hx5; (first | (with_reducible have TW5 := TW.ext hx5; obtain ⟨u, v, k0, k1, f0, f1⟩ := TW5.facts) | skip)) | (have TW5 := (Two.new w4 (.int .i64 0) (.int .i64 0) 36 rfl).ext hx5; have hg := Ext.heap x4; have x5 := (x4.alloc _).trans hx5; obtain ⟨u, v, k0, k1, f0, f1⟩ := TW5.facts)))
            | fail)
        all_goals
          go_wp2_with fail
          go_meet
          first
            | exact ⟨_, rfl, rfl, heap_alloc_new w5 _, x5.alloc _⟩
            | exact ⟨_, rfl, rfl, set2_heap TW5 (.int .i64 (ny.1 : Nat)) (.int .i64 (ny.2 : Nat)), x5.set2 hg (.int .i64 (ny.1 : Nat)) (.int .i64 (ny.2 : Nat))⟩
      case rest =>
        obtain ⟨gq, rfl, rfl, hq, XA⟩ := hcut
        obtain ⟨e0, e1⟩ := cells_of hq
        have HE2 := Lib.hid (HE.out.trans XA)
        have HO2 := Lib.hid (row_ext HO.out XA)
        clear KX d0 d1 d2 d3 hq XA
        generalize wc = wd at *
        by_cases hd : ny.2 ≤ 1024
        · have KN : Hid (∀ i, i ≤ j + 1 → FrOk (sq i)) := by
            intro i hi
            by_cases hij : i ≤ j
            · exact HK.out i hij
            · obtain rfl : i = j + 1 := (by omega)
              show goodB _ _ = true
              rw [SJ.out, NJ.out, decide_eq_true hd]
          rw [decide_eq_true hd]
          have TE : Hid (frs ((List.range (j + 1 + 1)).map sq) = frs ((List.range (j + 1)).map sq) ++ [.int .i64 (ny.1 : Nat), .int .i64 (ny.2 : Nat)]) := by
            show _ = _
            rw [TK.out, frs_append, SJ.out]; rfl
          have O3 := HO2.out
          rw [HN1.out] at O3
          have O3 := row_ext O3 ((Ext.refl wd).alloc (.cells #[.int .i64 (ny.1 : Nat), .int .i64 (ny.2 : Nat)] 36))
          have X3' := Lib.hid (HE2.out.alloc (.cells #[.int .i64 (ny.1 : Nat), .int .i64 (ny.2 : Nat)] 36))
          have LO := Lib.hid (fun j hj => (O3.lt j hj).1)
          clear hd
          go_wp2_with (at_builtin; refine wpList_appK rfl (.tmp 53) (.tmp 55) 42 rfl w2.heap.size 36 _ 2 16 Try.underlying42 infoFr rfl (by omega) _ n1 1 1 _ _ [.int .i64 (ny.1 : Nat), .int .i64 (ny.2 : Nat)] rfl rfl O3 rfl (new_cells wd #[.int .i64 (ny.1 : Nat), .int .i64 (ny.2 : Nat)] _) (by simp [Value.oneCell']) (by unfold maxLen; omega) (by omega) X3'.out.size ?_; intro v4 w4 o4 g4 _)
          have X4 := Lib.hid (X3'.out.grown g4 LO.out)
          rw [← HN1.out, ← TE.out] at o4
          have O4 := Lib.hid o4
          clear o4 g4 O3
          go_wp2_with fail
          exact ⟨⟨j + 1, by omega, by go_num, O4.out, KN.out, X4.out⟩, by simp [intOf]; omega⟩
        · have RN : Hid (R = none) := NN.out (j + 1) (by omega) (by rw [SJ.out]; exact hd)
          rw [decide_eq_false hd]
          clear hd
          go_wp2_with fail
          go_ret2
          rw [RN.out]
          exact ⟨_, rfl, World.ownsRow_nil _ _ _ _, X3.out.trans HE2.out⟩
    · have h1 : (n : Int) ≤ j := by omega
      obtain rfl : j = n := by omega
      have RS : Hid (R = some ((List.range (j + 1)).map sq)) := YY.out fun i hi => (HK.out i hi).small
      go_wp2_with fail
      go_ret2
      rw [RS.out]
      refine ⟨_, rfl, ?_, X3.out.trans HE.out⟩
      simp only [Option.getD_some, List.length_map, List.length_range]
      exact row_mono HO.out X3.out.size
end Go.Proofs.Ytijnadjgmmednaa.N
namespace Go.Proofs.Ytijnadjgmmednaa.N
open Go.RowKit
theorem set2_grown (w : World) (g : Nat) (a b : Value) : w.grownBy (N.set2 w g a b) (some g) := by
  have hs : (N.set2 w g a b).heap.size = w.heap.size := by simp [N.set2, World.setCell]
  exact ⟨rfl, rfl, rfl, by rw [hs]; exact Nat.le_refl _, fun k hk hne => set2_other (fun e => hne (by rw [e])) a b⟩
theorem row_set2 {w : World} {base g : Nat} {e : TypeId} {sz n : Nat} {v : Value} {xs : List Value} (h : w.ownsRow base e sz v n xs) (hg : g < base) (a b : Value) : (N.set2 w g a b).ownsRow base e sz v n xs :=
  World.ownsRow.kept h (set2_grown w g a b) (by
    cases hv : v.ownBlock with
    | none => exact .inl rfl
    | some k => right; intro e; injection e with e; have := (h.lt k hv).1; omega)
set_option maxHeartbeats 3200000 in
set_option maxRecDepth 100000 in
theorem implOO_no (s t : ByteArray) (n d m : Int) (h : ¬ (Good s t ∧ goodB n d = true ∧ 0 ≤ m ∧ m ≤ 20)) (w : World) :
    Calls Try.prog 20 #[.agg #[.string s, .string t], .agg #[.int .i64 n, .int .i64 d], .int .i64 m] w fun e w' => ∃ v, e = .returned (.tuple #[v, .bool false]) ∧ w'.ownsRow w.heap.size 36 2 v 0 (frs []) ∧ Ext w w' := by
  obtain ⟨X2, b3, b4⟩ := boxPF w (.string s) (.string t) (.int .i64 n) (.int .i64 d) 25 36
  have X2 := Lib.hid X2
  have B4 := Lib.hid b4
  obtain ⟨c0, c1⟩ := cells_of b3
  by_cases hg : Good s t
  · have hr : goodB n d = true → ¬ (0 ≤ m ∧ m ≤ 20) := fun k q => h ⟨hg, k, q⟩
    obtain ⟨A, B, rfl, rfl, h1, h2⟩ := hg
    have C1 := Lib.hid (fun W => pairOf_yes A B h1 h2 W)
    have C2 := Lib.hid (fun W => isFraction_calls n d W)
    clear h h1 h2 b3 b4
    generalize tx A = s at *
    generalize tx B = t at *
    cases hf : goodB n d with
    | false =>
      rw [hf] at C2
      clear hf hr
      go_enter Try.func20, Try.ntmps20
      go_wp2_with fail
      generalize (w.alloc (.cells #[.string s, .string t] 25)).alloc (.cells #[.int .i64 n, .int .i64 d] 36) = W at *
      refine (C1.out _).mono ?_
      rintro e w1 ⟨pa, pb, rfl, rA, rB, x1⟩
      have xa := x1.alloc (.cells #[.pointer pa, .pointer pb] 82)
      have X1 := Lib.hid (X2.out.trans xa)
      obtain ⟨c2, c3⟩ := cells_of (xa.at B4.out)
      clear rA rB
      go_wp2_with fail
      refine (C2.out _).mono ?_
      rintro e w2 ⟨rfl, x2⟩
      have X3 := Lib.hid (X1.out.trans x2)
      go_wp2_with fail
      go_ret2
      exact ⟨_, rfl, World.ownsRow_nil _ _ _ _, X3.out⟩
    | true =>
      rw [hf] at C2
      have hr := hr hf
      clear hf
      by_cases hm : m < 0
      · clear hr
        go_enter Try.func20, Try.ntmps20
        go_wp2_with fail
        generalize (w.alloc (.cells #[.string s, .string t] 25)).alloc (.cells #[.int .i64 n, .int .i64 d] 36) = W at *
        refine (C1.out _).mono ?_
        rintro e w1 ⟨pa, pb, rfl, rA, rB, x1⟩
        have xa := x1.alloc (.cells #[.pointer pa, .pointer pb] 82)
        have X1 := Lib.hid (X2.out.trans xa)
        obtain ⟨c2, c3⟩ := cells_of (xa.at B4.out)
        clear rA rB
        go_wp2_with fail
        refine (C2.out _).mono ?_
        rintro e w2 ⟨rfl, x2⟩
        have X3 := Lib.hid (X1.out.trans x2)
        go_wp2_with fail
        go_ret2
        exact ⟨_, rfl, World.ownsRow_nil _ _ _ _, X3.out⟩
      · have hm2 : 20 < m := by omega
        clear hr
        go_enter Try.func20, Try.ntmps20
        go_wp2_with fail
        generalize (w.alloc (.cells #[.string s, .string t] 25)).alloc (.cells #[.int .i64 n, .int .i64 d] 36) = W at *
        refine (C1.out _).mono ?_
        rintro e w1 ⟨pa, pb, rfl, rA, rB, x1⟩
        have xa := x1.alloc (.cells #[.pointer pa, .pointer pb] 82)
        have X1 := Lib.hid (X2.out.trans xa)
        obtain ⟨c2, c3⟩ := cells_of (xa.at B4.out)
        clear rA rB
        go_wp2_with fail
        refine (C2.out _).mono ?_
        rintro e w2 ⟨rfl, x2⟩
        have X3 := Lib.hid (X1.out.trans x2)
        go_wp2_with fail
        go_ret2
        exact ⟨_, rfl, World.ownsRow_nil _ _ _ _, X3.out⟩
  · have C1 := Lib.hid (fun W => pairOf_no s t hg W)
    clear h hg b3 b4
    go_enter Try.func20, Try.ntmps20
    go_wp2_with fail
    generalize (w.alloc (.cells #[.string s, .string t] 25)).alloc (.cells #[.int .i64 n, .int .i64 d] 36) = W at *
    refine (C1.out _).mono ?_
    rintro e w1 ⟨pa, pb, rfl, x1⟩
    have xa := x1.alloc (.cells #[.pointer pa, .pointer pb] 82)
    have X1 := Lib.hid (X2.out.trans xa)
    go_wp2_with fail
    go_ret2
    exact ⟨_, rfl, World.ownsRow_nil _ _ _ _, X1.out⟩
set_option maxHeartbeats 3200000 in
set_option maxRecDepth 100000 in
theorem specOO_no (s t : ByteArray) (n d m : Int) (h : ¬ (Good s t ∧ goodB n d = true ∧ 0 ≤ m ∧ m ≤ 20)) (w : World) :
    Calls Try.prog 21 #[.agg #[.string s, .string t], .agg #[.int .i64 n, .int .i64 d], .int .i64 m] w fun e w' => ∃ v, e = .returned (.tuple #[v, .bool false]) ∧ w'.ownsRow w.heap.size 36 2 v 0 (frs []) ∧ Ext w w' := by
  obtain ⟨X2, b3, b4⟩ := boxPF w (.string s) (.string t) (.int .i64 n) (.int .i64 d) 25 36
  have X2 := Lib.hid X2
  have B4 := Lib.hid b4
  obtain ⟨c0, c1⟩ := cells_of b3
  by_cases hg : Good s t
  · have hr : goodB n d = true → ¬ (0 ≤ m ∧ m ≤ 20) := fun k q => h ⟨hg, k, q⟩
    obtain ⟨A, B, rfl, rfl, h1, h2⟩ := hg
    have C1 := Lib.hid (fun W => prGood_yes A B h1 h2 W)
    have C2 := Lib.hid (fun W => mpGood_calls n d W)
    clear h h1 h2 b3 b4
    generalize tx A = s at *
    generalize tx B = t at *
    cases hf : goodB n d with
    | false =>
      rw [hf] at C2
      clear hf hr
      go_enter Try.func21, Try.ntmps21
      go_wp2_with fail
      generalize (w.alloc (.cells #[.string s, .string t] 25)).alloc (.cells #[.int .i64 n, .int .i64 d] 36) = W at *
      refine (C1.out _).mono ?_
      rintro e w1 ⟨rfl, x1⟩
      have X1 := Lib.hid (X2.out.trans x1)
      obtain ⟨c2, c3⟩ := cells_of (x1.at B4.out)
      go_wp2_with fail
      refine (C2.out _).mono ?_
      rintro e w2 ⟨rfl, x2⟩
      have X3 := Lib.hid (X1.out.trans x2)
      go_wp2_with fail
      go_ret2
      exact ⟨_, rfl, World.ownsRow_nil _ _ _ _, X3.out⟩
    | true =>
      rw [hf] at C2
      have hr := hr hf
      clear hf
      have C3 := Lib.hid (fun W => l1In_calls m 0 20 W)
      rw [decide_eq_false hr] at C3
      clear hr
      go_enter Try.func21, Try.ntmps21
      go_wp2_with fail
      generalize (w.alloc (.cells #[.string s, .string t] 25)).alloc (.cells #[.int .i64 n, .int .i64 d] 36) = W at *
      refine (C1.out _).mono ?_
      rintro e w1 ⟨rfl, x1⟩
      have X1 := Lib.hid (X2.out.trans x1)
      obtain ⟨c2, c3⟩ := cells_of (x1.at B4.out)
      go_wp2_with fail
      refine (C2.out _).mono ?_
      rintro e w2 ⟨rfl, x2⟩
      have X3 := Lib.hid (X1.out.trans x2)
      go_wp2_with fail
      refine (C3.out _).mono ?_
      rintro e w3 ⟨rfl, rfl⟩
      go_wp2_with fail
      go_ret2
      exact ⟨_, rfl, World.ownsRow_nil _ _ _ _, X3.out⟩
  · have C1 := Lib.hid (fun W => prGood_no s t hg W)
    clear h hg b3 b4
    go_enter Try.func21, Try.ntmps21
    go_wp2_with fail
    generalize (w.alloc (.cells #[.string s, .string t] 25)).alloc (.cells #[.int .i64 n, .int .i64 d] 36) = W at *
    refine (C1.out _).mono ?_
    rintro e w1 ⟨rfl, x1⟩
    have X1 := Lib.hid (X2.out.trans x1)
    go_wp2_with fail
    go_ret2
    exact ⟨_, rfl, World.ownsRow_nil _ _ _ _, X1.out⟩
set_option maxHeartbeats 6400000 in
set_option maxRecDepth 100000 in
theorem specOO_yes (A B : Tr) (hc : A.carets = B.carets) (hB : B.carets ≤ 8) (x : Nat × Nat) (hx : FrOk x) (n : Nat) (hn : n ≤ 20) (w : World) :
    Calls Try.prog 21 #[.agg #[.string (tx A), .string (tx B)], .agg #[.int .i64 (x.1 : Nat), .int .i64 (x.2 : Nat)], .int .i64 n] w fun e w' => ∃ v, e = .returned (.tuple #[v, .bool (orbT A B x n).isSome]) ∧ w'.ownsRow w.heap.size 36 2 v ((orbT A B x n).getD []).length (frs ((orbT A B x n).getD [])) ∧ Ext w w' := by
  obtain ⟨X2, b3, b4⟩ := boxPF w (.string (tx A)) (.string (tx B)) (.int .i64 (x.1 : Nat)) (.int .i64 (x.2 : Nat)) 25 36
  have X2 := Lib.hid X2
  have B3 := Lib.hid b3
  have B4 := Lib.hid b4
  obtain ⟨c0, c1⟩ := cells_of b3
  have C1 := Lib.hid (fun W => prGood_yes A B hc hB W)
  have CG := Lib.hid (fun (y : Nat × Nat) W => mpGood_calls (y.1 : Nat) (y.2 : Nat) W)
  have C2 : Hid (∀ W, Calls Try.prog 68 #[.agg #[.int .i64 (x.1 : Nat), .int .i64 (x.2 : Nat)]] W fun e w' => e = .returned (.bool true) ∧ Ext W w') := by
    intro W
    have := CG.out x W
    unfold FrOk at hx
    rw [hx] at this
    exact this
  have C3 := Lib.hid (fun W => l1In_calls n 0 20 W)
  rw [decide_eq_true (show (0 : Int) ≤ n ∧ (n : Int) ≤ 20 by omega)] at C3
  have CV : Hid (∀ y : Nat × Nat, FrOk y → ∀ W, Calls Try.prog 79 #[.agg #[.string (tx A), .string (tx B)], .agg #[.int .i64 (y.1 : Nat), .int .i64 (y.2 : Nat)]] W fun e w' => e = .returned (.agg #[.int .i64 ((nxt A B y).1 : Nat), .int .i64 ((nxt A B y).2 : Nat)]) ∧ Ext W w') := by
    intro y hy W
    obtain ⟨k, h1, h2, h3⟩ := hy.form
    have := mpValue_calls A B hc hB y.1 k h1 h3 W
    rw [← nxt_at A B y.1 k (by omega), ← h2] at this
    rw [show (y.1, y.2) = y from rfl] at this
    exact this
  have NX := Lib.hid (fun (y : Nat × Nat) (hy : FrOk y) => hy.next A B hc hB)
  have S0 : Hid (seqO A B x 0 = x) := rfl
  have SS : Hid (∀ j, seqO A B x (j + 1) = nxt A B (seqO A B x j)) := fun j => rfl
  have NN := Lib.hid (fun j => @orbT_none A B x n j)
  have YY : Hid ((∀ j, j ≤ n → (seqO A B x j).2 ≤ 1024) → orbT A B x n = some ((List.range (n + 1)).map (seqO A B x))) := fun h => by unfold orbT; rw [if_pos h]
  have HX := Lib.hid hx
  have hn' : (n : Int) ≤ 20 := by omega
  generalize orbT A B x n = R at *
  generalize seqO A B x = sq at *
  generalize nxt A B = nx at *
  generalize tx A = a at *
  generalize tx B = b at *
  clear hc hB hx b3 b4
  go_enter Try.func21, Try.ntmps21
  go_wp2_with fail
  generalize (w.alloc (.cells #[.string a, .string b] 25)).alloc (.cells #[.int .i64 (x.1 : Nat), .int .i64 (x.2 : Nat)] 36) = W at *
  refine (C1.out _).mono ?_
  rintro e w1 ⟨rfl, x1⟩
  have X1 := Lib.hid (X2.out.trans x1)
  have B3 := Lib.hid (x1.at B3.out)
  have B4 := Lib.hid (x1.at B4.out)
  obtain ⟨c2, c3⟩ := cells_of B4.out
  clear x1 c0 c1
  go_wp2_with fail
  refine (C2.out _).mono ?_
  rintro e w2 ⟨rfl, x2⟩
  have X3 := Lib.hid (X1.out.trans x2)
  have B3 := Lib.hid (x2.at B3.out)
  have B4 := Lib.hid (x2.at B4.out)
  obtain ⟨c2, c3⟩ := cells_of B4.out
  clear x2
  go_wp2_with fail
  refine (C3.out _).mono ?_
  rintro e w3 ⟨rfl, rfl⟩
  have LIT := Lib.hid (row_lit2 w2 w2.heap.size (.int .i64 (x.1 : Nat)) (.int .i64 (x.2 : Nat)) 36 (Nat.le_refl _))
  have xl := (Ext.refl w2).alloc (.cells #[.int .i64 (x.1 : Nat), .int .i64 (x.2 : Nat)] 36)
  have GL : Hid (w.heap.size + 1 < w2.heap.size ∧ w.heap.size ≤ w2.heap.size) := ⟨(Array.getElem?_eq_some_iff.1 B4.out).1, X3.out.size⟩
  have XL := Lib.hid (X3.out.trans xl)
  have B3 := Lib.hid (xl.at B3.out)
  have B4 := Lib.hid (xl.at B4.out)
  clear xl C1 C2 C3
  go_wp2_with fail
  have E0 : Hid (frs ((List.range (0 + 1)).map sq) = [.int .i64 (x.1 : Nat), .int .i64 (x.2 : Nat)]) := by show _ = _; simp [frs, S0.out]
  generalize w2.alloc (.cells #[.int .i64 (x.1 : Nat), .int .i64 (x.2 : Nat)] 36) = W2 at *
  go_loopw [9, 8] (fun i v wr => ∃ j : Nat, j ≤ n ∧ i = .int .i64 j ∧ Hid (wr.ownsRow w2.heap.size 36 2 v (j + 1) (frs ((List.range (j + 1)).map sq))) ∧ Hid (∀ i, i ≤ j → FrOk (sq i)) ∧ Hid (wr.heap[w.heap.size]? = some (.cells #[.string a, .string b] 25)) ∧ Hid (wr.heap[w.heap.size + 1]? = some (.cells #[.int .i64 ((sq j).1 : Nat), .int .i64 ((sq j).2 : Nat)] 36)) ∧ Hid (Ext w wr)) (fun i _ _ => n - (intOf i).toNat)
  case atStart => exact ⟨0, Nat.zero_le _, rfl, (by show World.ownsRow _ _ _ _ _ _ _; rw [E0.out]; exact LIT.out), (fun i hi => by obtain rfl : i = 0 := (by omega); rw [S0.out]; exact HX.out), B3.out, (by rw [S0.out]; exact B4.out), XL.out⟩
  case round =>
    obtain ⟨j, hj, rfl, HO, HK, H3, H4, HE⟩ := hrel
    by_cases hlt : j < n
    · have h0 : (0 : Int) ≤ j := by omega
      have h1 : (j : Int) < n := by omega
      have FJ := HK.out j (Nat.le_refl _)
      have CVJ := Lib.hid (CV.out (sq j) FJ)
      have NJ := Lib.hid (NX.out (sq j) FJ)
      have SJ := Lib.hid (SS.out j)
      have CGJ := Lib.hid (CG.out (nx (sq j)))
      rw [NJ.out] at CGJ
      obtain ⟨d0, d1⟩ := cells_of H3.out
      obtain ⟨d2, d3⟩ := cells_of H4.out
      have TK := Lib.hid (range_map_snoc sq (j + 1))
      generalize nx (sq j) = ny at *
      generalize (sq j).1 = m0 at *
      generalize (sq j).2 = m1 at *
      clear FJ
      go_wp2_with fail
      refine (CVJ.out _).mono ?_
      rintro e w5 ⟨rfl, x5⟩
      have T5 : Hid (Two w5 (w.heap.size + 1) 36) := ⟨_, _, x5.at H4.out⟩
      obtain ⟨u, v', k0, k1, f0, f1⟩ := T5.out.facts
      have HO5 := Lib.hid (row_ext HO.out x5)
      have HE5 := Lib.hid (HE.out.trans x5)
      have H35 := Lib.hid (x5.at H3.out)
      clear x5 d0 d1 d2 d3
      go_wp2_with fail
      have P4 := Lib.hid (set2_heap T5.out (.int .i64 (ny.1 : Nat)) (.int .i64 (ny.2 : Nat)))
      have P3 := Lib.hid ((set2_other (k := w.heap.size) (g := w.heap.size + 1) (by omega) (.int .i64 (ny.1 : Nat)) (.int .i64 (ny.2 : Nat))).trans H35.out)
      have PO := Lib.hid (row_set2 HO5.out GL.out.1 (.int .i64 (ny.1 : Nat)) (.int .i64 (ny.2 : Nat)))
      have PE := Lib.hid (HE5.out.set2 (g := w.heap.size + 1) (by omega) (.int .i64 (ny.1 : Nat)) (.int .i64 (ny.2 : Nat)))
      change Calls _ _ _ (N.set2 w5 (w.heap.size + 1) (.int .i64 (ny.1 : Nat)) (.int .i64 (ny.2 : Nat))) _
      clear k0 k1 f0 f1 T5 HO5 HE5 H35
      generalize N.set2 w5 (w.heap.size + 1) (.int .i64 (ny.1 : Nat)) (.int .i64 (ny.2 : Nat)) = W6 at *
      refine (CGJ.out _).mono ?_
      rintro e w6 ⟨rfl, x6⟩
      have P4 := Lib.hid (x6.at P4.out)
      have P3 := Lib.hid (x6.at P3.out)
      have PO := Lib.hid (row_ext PO.out x6)
      have PE := Lib.hid (PE.out.trans x6)
      obtain ⟨e0, e1⟩ := cells_of P4.out
      clear x6
      by_cases hd : ny.2 ≤ 1024
      · have KN : Hid (∀ i, i ≤ j + 1 → FrOk (sq i)) := by
          intro i hi
          by_cases hij : i ≤ j
          · exact HK.out i hij
          · obtain rfl : i = j + 1 := (by omega)
            show goodB _ _ = true
            rw [SJ.out, NJ.out, decide_eq_true hd]
        rw [decide_eq_true hd]
        have TE : Hid (frs ((List.range (j + 1 + 1)).map sq) = frs ((List.range (j + 1)).map sq) ++ [.int .i64 (ny.1 : Nat), .int .i64 (ny.2 : Nat)]) := by
          show _ = _
          rw [TK.out, frs_append, SJ.out]; rfl
        have O3 := row_ext PO.out ((Ext.refl w6).alloc (.cells #[.int .i64 (ny.1 : Nat), .int .i64 (ny.2 : Nat)] 36))
        have xq : Ext w6 (w6.alloc (.cells #[.int .i64 (ny.1 : Nat), .int .i64 (ny.2 : Nat)] 36)) := (Ext.refl w6).alloc _
        have X3' := Lib.hid (PE.out.trans xq)
        have P4 := Lib.hid (xq.at P4.out)
        have P3 := Lib.hid (xq.at P3.out)
        have LO := Lib.hid (fun j hj => (O3.lt j hj).1)
        have BS : Hid (w2.heap.size ≤ (w6.alloc (.cells #[.int .i64 (ny.1 : Nat), .int .i64 (ny.2 : Nat)] 36)).heap.size) := by
          obtain ⟨gg, cc, e9, hb9⟩ := row_block O3 (by omega)
          subst e9
          have := O3.lt gg rfl
          show _ ≤ _; omega
        clear hd xq
        obtain ⟨n1, hn1⟩ : ∃ n1 : Nat, j + 1 = n1 := ⟨_, rfl⟩
        have HN1 := Lib.hid hn1
        have I1 : n1 ≤ 21 := by omega
        rw [hn1] at O3
        clear hn1
        go_wp2_with (at_builtin; refine wpList_appK rfl (.tmp 36) (.tmp 38) 42 rfl w2.heap.size 36 _ 2 16 Try.underlying42 infoFr rfl (by omega) _ n1 1 1 _ _ [.int .i64 (ny.1 : Nat), .int .i64 (ny.2 : Nat)] rfl rfl O3 rfl (new_cells w6 #[.int .i64 (ny.1 : Nat), .int .i64 (ny.2 : Nat)] _) (by simp [Value.oneCell']) (by unfold maxLen; omega) (by omega) BS.out ?_; intro v4 w4 o4 g4 _)
        have X4 := Lib.hid (X3'.out.grown g4 (fun k hk => Nat.le_trans GL.out.2 (LO.out k hk)))
        have P4 := Lib.hid ((g4.block (w.heap.size + 1) (Array.getElem?_eq_some_iff.1 P4.out).1 (fun e => by have := LO.out _ e.symm; have := GL.out.1; omega)).trans P4.out)
        have P3 := Lib.hid ((g4.block w.heap.size (Array.getElem?_eq_some_iff.1 P3.out).1 (fun e => by have := LO.out _ e.symm; have := GL.out.1; omega)).trans P3.out)
        have P4' := P4.out
        rw [← SJ.out] at P4'
        have P4' := Lib.hid P4'
        rw [← HN1.out, ← TE.out] at o4
        have O4 := Lib.hid o4
        clear o4 g4 O3 P4 e0 e1
        go_wp2_with fail
        exact ⟨⟨j + 1, by omega, by go_num, O4.out, KN.out, P3.out, P4'.out, X4.out⟩, by simp [intOf]; omega⟩
      · have RN : Hid (R = none) := NN.out (j + 1) (by omega) (by rw [SJ.out]; exact hd)
        rw [decide_eq_false hd]
        clear hd
        go_wp2_with fail
        go_ret2
        rw [RN.out]
        exact ⟨_, rfl, World.ownsRow_nil _ _ _ _, PE.out⟩
    · have h1 : (n : Int) ≤ j := by omega
      obtain rfl : j = n := by omega
      have RS : Hid (R = some ((List.range (j + 1)).map sq)) := YY.out fun i hi => (HK.out i hi).small
      go_wp2_with fail
      go_ret2
      rw [RS.out]
      refine ⟨_, rfl, ?_, HE.out⟩
      simp only [Option.getD_some, List.length_map, List.length_range]
      exact row_mono HO.out GL.out.2
end Go.Proofs.Ytijnadjgmmednaa.N
namespace Go.Proofs.Ytijnadjgmmednaa.N
def vL (la lb : List (List UInt8)) (p : Nat) : Nat := vaL (la.getD (fi p la) []) (lb.getD (fi p la) []) p
theorem vaL_same (a b : List UInt8) (p q : Nat) (ha : a.length ≤ 8) (hb : b.length ≤ 8) (h1 : plA a ≤ p) (h2 : p + 1073741824 ≤ q) : vaL a b p < vaL a b q := by
  unfold vaL
  by_cases h : b.length ≤ a.length
  · rw [if_pos h, if_pos h]
    have := Nat.mul_lt_mul_of_pos_right (show p - plA a < q - plA a by omega) (Nat.two_pow_pos (a.length - b.length))
    omega
  · rw [if_neg h, if_neg h]
    have hs : 2 ^ (b.length - a.length) ≤ 2 ^ 8 := Nat.pow_le_pow_right (by omega) (by omega)
    have hp := Nat.two_pow_pos (b.length - a.length)
    generalize 2 ^ (b.length - a.length) = d at *
    have e : (p - plA a) / d + 1 = ((p - plA a) + d) / d := (Nat.add_div_right _ hp).symm
    have := Nat.div_le_div_right (c := d) (show (p - plA a) + d ≤ q - plA a by omega)
    omega
theorem vaL_in (a b : List UInt8) (p : Nat) (ha : a.length ≤ 8) (hb : b.length ≤ 8) (h1 : plA a ≤ p) (h2 : p < plA a + part a.length) : vaL a b p < plA b + part b.length := by
  unfold vaL
  by_cases h : b.length ≤ a.length
  · rw [if_pos h]
    have e := part_pow (l := b.length) (s := a.length - b.length) (by omega)
    rw [show b.length + (a.length - b.length) = a.length by omega] at e
    have := Nat.mul_lt_mul_of_pos_right (show p - plA a < part a.length by omega) (Nat.two_pow_pos (a.length - b.length))
    omega
  · rw [if_neg h]
    have e := part_pow (l := a.length) (s := b.length - a.length) (by omega)
    rw [show a.length + (b.length - a.length) = b.length by omega] at e
    have := (Nat.div_lt_iff_lt_mul (Nat.two_pow_pos (b.length - a.length))).2 (show p - plA a < part b.length * 2 ^ (b.length - a.length) by omega)
    omega
theorem vaL_from (a b : List UInt8) (p : Nat) : plA b ≤ vaL a b p := by unfold vaL; split <;> exact Nat.le_add_right _ _
theorem vL_from (p : Nat) : ∀ (la lb : List (List UInt8)) (s e s' e' : Nat), la.length = lb.length → la ≠ [] → Chn s e la → Chn s' e' lb → s' ≤ vL la lb p
  | [], _, _, _, _, _, _, h, _, _ => absurd rfl h
  | a :: l, [], _, _, _, _, h, _, _, _ => by simp at h
  | a :: l, b :: l', s, e, s', e', hl, _, h1, h2 => by
    unfold vL
    by_cases hp : p < plA a + part a.length
    · have : fi p (a :: l) = 0 := by simp [fi, hp]
      rw [this]
      have := vaL_from a b p
      simp only [List.getD_cons_zero]
      have := h2.1
      omega
    · by_cases hn : l = []
      · have : fi p (a :: l) = 0 := by simp [fi, hp, hn]
        rw [this]
        have := vaL_from a b p
        simp only [List.getD_cons_zero]
        have := h2.1
        omega
      · have : fi p (a :: l) = fi p l + 1 := by simp [fi, hp, hn]; omega
        rw [this]
        simp only [List.getD_cons_succ]
        have := vL_from p l l' _ _ _ _ (by simpa using hl) hn h1.2 h2.2
        unfold vL at this
        omega
theorem vL_mono (p q : Nat) (hpq : p + 1073741824 ≤ q) : ∀ (la lb : List (List UInt8)) (s e s' e' : Nat), la.length = lb.length → la ≠ [] → Chn s e la → Chn s' e' lb → (∀ x ∈ la, x.length ≤ 8) → (∀ x ∈ lb, x.length ≤ 8) → s ≤ p → vL la lb p < vL la lb q
  | [], _, _, _, _, _, _, h, _, _, _, _, _ => absurd rfl h
  | a :: l, [], _, _, _, _, h, _, _, _, _, _, _ => by simp at h
  | a :: l, b :: l', s, e, s', e', hl, _, h1, h2, ha, hb, hs => by
    have la8 := ha a List.mem_cons_self
    have lb8 := hb b List.mem_cons_self
    have hx : plA a ≤ p := by have := h1.1; omega
    unfold vL
    by_cases hn : l = []
    · have e1 : ∀ r, fi r (a :: l) = 0 := fun r => by simp [fi, hn]
      rw [e1, e1]
      simp only [List.getD_cons_zero]
      exact vaL_same a b p q la8 lb8 hx hpq
    · by_cases hq : q < plA a + part a.length
      · have e1 : fi p (a :: l) = 0 := by simp only [fi]; rw [if_pos (by omega)]
        have e2 : fi q (a :: l) = 0 := by simp only [fi]; rw [if_pos hq]
        rw [e1, e2]
        simp only [List.getD_cons_zero]
        exact vaL_same a b p q la8 lb8 hx hpq
      · have e2 : fi q (a :: l) = fi q l + 1 := by simp [fi, hq, hn]; omega
        by_cases hp : p < plA a + part a.length
        · have e1 : fi p (a :: l) = 0 := by simp [fi, hp]
          rw [e1, e2]
          simp only [List.getD_cons_zero, List.getD_cons_succ]
          have h3 := vaL_in a b p la8 lb8 hx hp
          have h4 := vL_from q l l' _ _ _ _ (by simpa using hl) hn h1.2 h2.2
          unfold vL at h4
          have := h2.1
          omega
        · have e1 : fi p (a :: l) = fi p l + 1 := by simp [fi, hp, hn]; omega
          rw [e1, e2]
          simp only [List.getD_cons_succ]
          have := vL_mono p q hpq l l' _ _ _ _ (by simpa using hl) hn h1.2 h2.2 (fun x hx => ha x (List.mem_cons_of_mem _ hx)) (fun x hx => hb x (List.mem_cons_of_mem _ hx)) (by have := h1.1; omega)
          unfold vL at this
          exact this
theorem vaF_mono {A B : Tr} (hc : A.carets = B.carets) (hB : B.carets ≤ 8) {p q : Nat} (h : p + 1073741824 ≤ q) : vaF A B p < vaF A B q := by
  have dA := A.depth_le
  have dB := B.depth_le
  have cA := addrs_chn A [] (by simp; omega)
  have cB := addrs_chn B [] (by simp; omega)
  have hne : addrs A [] ≠ [] := fun h => by have := addrs_length A []; rw [h] at this; simp at this
  exact vL_mono p q h (addrs A []) (addrs B []) _ _ _ _ (by rw [addrs_length, addrs_length, hc]) hne cA cB (fun x hx => by have := addrs_depth A [] x hx; simp at this; omega) (fun x hx => by have := addrs_depth B [] x hx; simp at this; omega) (by show 0 ≤ p; omega)
def plc (x : Nat × Nat) : Nat := x.1 * (1099511627776 / x.2)
theorem halve_place (V : Nat) : ∀ (f p j : Nat), j ≤ 40 → p * 2 ^ (40 - j) = V → plc (halve f p (2 ^ j)) = V
  | 0, p, j, hj, h => by
    unfold plc halve
    rw [part_div hj]; exact h
  | f + 1, p, j, hj, h => by
    unfold halve
    by_cases hc : 1 < 2 ^ j ∧ p % 2 = 0
    · rw [if_pos hc]
      obtain ⟨i, rfl⟩ : ∃ i, j = i + 1 := by
        cases j with
        | zero => simp at hc
        | succ i => exact ⟨i, rfl⟩
      rw [show 2 ^ (i + 1) / 2 = 2 ^ i by rw [Nat.pow_succ]; exact Nat.mul_div_cancel _ (by omega)]
      refine halve_place V f (p / 2) i (by omega) ?_
      rw [← h, show 40 - i = (40 - (i + 1)) + 1 by omega, Nat.pow_succ]
      have : p / 2 * 2 = p := by omega
      rw [Nat.mul_comm (2 ^ (40 - (i + 1))) 2, ← Nat.mul_assoc, this]
    · rw [if_neg hc]
      unfold plc
      rw [part_div hj]; exact h
theorem plc_nxt (A B : Tr) (x : Nat × Nat) : plc (nxt A B x) = vaF A B (plc x) := by
  unfold nxt
  exact halve_place _ 40 _ 40 (Nat.le_refl _) (by simp [plc])
theorem FrOk.gap {x : Nat × Nat} (h : FrOk x) : plc x % 1073741824 = 0 := by
  obtain ⟨k, h1, h2, h3⟩ := h.form
  unfold plc
  rw [h2, part_div (by omega)]
  unfold part
  rw [show 40 - k = 30 + (10 - k) by omega, Nat.pow_add, ← Nat.mul_assoc, Nat.mul_right_comm]
  exact Nat.mul_mod_left _ _
theorem less_plc {x y : Nat × Nat} (hx : FrOk x) (hy : FrOk y) : (x.1 * y.2 < y.1 * x.2) ↔ plc x < plc y := by
  obtain ⟨k, h1, h2, h3⟩ := hx.form
  obtain ⟨i, g1, g2, g3⟩ := hy.form
  unfold plc
  rw [h2, g2, part_div (by omega), part_div (by omega)]
  have e1 : x.1 * part k = (x.1 * 2 ^ i) * 2 ^ (40 - k - i) := by unfold part; rw [Nat.mul_assoc, ← Nat.pow_add]; congr 2; omega
  have e2 : y.1 * part i = (y.1 * 2 ^ k) * 2 ^ (40 - k - i) := by unfold part; rw [Nat.mul_assoc, ← Nat.pow_add]; congr 2; omega
  rw [e1, e2]
  exact (Nat.mul_lt_mul_right (Nat.two_pow_pos _)).symm
theorem orbit_way {A B : Tr} (hc : A.carets = B.carets) (hB : B.carets ≤ 8) {x y z : Nat × Nat} (hx : FrOk x) (hy : FrOk y) (hz : FrOk z) (e1 : y = nxt A B x) (e2 : z = nxt A B y) : (x.1 * y.2 < y.1 * x.2) ↔ (y.1 * z.2 < z.1 * y.2) := by
  rw [less_plc hx hy, less_plc hy hz]
  have p1 : plc y = vaF A B (plc x) := by rw [e1, plc_nxt]
  have p2 : plc z = vaF A B (plc y) := by rw [e2, plc_nxt]
  have gx := hx.gap
  have gy := hy.gap
  constructor
  · intro h
    have := vaF_mono hc hB (p := plc x) (q := plc y) (by omega)
    omega
  · intro h
    apply Nat.lt_of_not_le
    intro hle
    rcases Nat.lt_or_eq_of_le hle with hlt | heq
    · have := vaF_mono hc hB (p := plc y) (q := plc x) (by omega)
      omega
    · rw [heq] at p2
      omega
end Go.Proofs.Ytijnadjgmmednaa.N
