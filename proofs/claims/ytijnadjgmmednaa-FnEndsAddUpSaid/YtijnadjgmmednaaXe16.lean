import Derived.Test.YtijnadjgmmednaaXe10
import Derived.Test.YtijnadjgmmednaaXe13
/- A part of the proof: lemmas that later parts use. -/
set_option linter.unusedVariables false
set_option linter.unusedSimpArgs false
namespace Go.Proofs.Ytijnadjgmmednaa.N
open Go.RowKit
theorem infoFr : (Try.prog.info? 36).map (fun i => (i.zero, i.size, i.bytes)) = some (some (.agg #[.int .i64 0, .int .i64 0]), 2, 16) := by kernel_rfl
def frs (l : List (Nat × Nat)) : List Value := l.flatMap fun x => [.int .i64 (x.1 : Nat), .int .i64 (x.2 : Nat)]
theorem frs_length : ∀ l : List (Nat × Nat), (frs l).length = l.length * 2
  | [] => rfl
  | x :: l => by
    have := frs_length l
    unfold frs at this ⊢
    rw [List.flatMap_cons, List.length_append, this]; simp; omega
theorem frs_append (l m : List (Nat × Nat)) : frs (l ++ m) = frs l ++ frs m := by simp [frs]
theorem frs_get : ∀ (l : List (Nat × Nat)) (k : Nat) (x : Nat × Nat), l[k]? = some x → (frs l)[k * 2]? = some (.int .i64 (x.1 : Nat)) ∧ (frs l)[k * 2 + 1]? = some (.int .i64 (x.2 : Nat))
  | [], _, _, h => by simp at h
  | y :: l, 0, x, h => by
    simp only [List.getElem?_cons_zero, Option.some.injEq] at h
    subst h
    exact ⟨rfl, rfl⟩
  | y :: l, k + 1, x, h => by
    have := frs_get l k x (by simpa using h)
    unfold frs at this ⊢
    rw [List.flatMap_cons, List.getElem?_append_right (by simp; omega), List.getElem?_append_right (by simp; omega)]
    simp only [List.length_cons, List.length_nil]
    rw [show (k + 1) * 2 - (0 + 1 + 1) = k * 2 by omega, show (k + 1) * 2 + 1 - (0 + 1 + 1) = k * 2 + 1 by omega]
    exact this
def stF (a : List UInt8) : Nat × Nat := (sN a, sD a)
set_option maxHeartbeats 3200000 in
set_option maxRecDepth 100000 in
theorem mpStarts_calls (T : Tr) (hd : T.depth ≤ 40) (hT : T.carets ≤ 1000) (w : World) :
    Calls Try.prog 70 #[.string (tx T)] w fun e w' => ∃ v, e = .returned v ∧ w'.ownsRow w.heap.size 36 2 v (T.carets + 1) (frs ((addrs T []).map stF)) ∧ Ext w w' := by
  have C1 := Lib.hid (fun W => trAddresses_calls T [] ⟨#[]⟩ W (by omega) hT (by simp; omega) rfl)
  have HB : Hid (∀ x ∈ addrs T [], Bits x) := fun x hx => addrs_bits T [] x (fun c h => by cases h) hx
  have HL : Hid (∀ x ∈ addrs T [], x.length ≤ 40) := fun x hx => by have := addrs_depth T [] x hx; simp at this; omega
  have LA := addrs_length T []
  rw [← LA]
  have L1 : (addrs T []).length ≤ 1001 := by omega
  generalize addrs T [] = l at *
  generalize tx T = t at *
  clear hd hT LA
  go_enter Try.func70, Try.ntmps70
  go_wp2_with fail
  refine (C1.out _).mono ?_
  rintro e w1 ⟨v1, rfl, o1, x1⟩
  obtain ⟨A1, q1, rfl, _, _⟩ := o1.reads
  rw [sls_length] at o1 ⊢
  have R1 := Lib.hid o1.reads
  have X1 := Lib.hid x1
  clear o1 x1
  go_wp2_with fail
  go_loopw [9, 3] (fun i o wr => ∃ k : Nat, k ≤ l.length ∧ i = .int .i64 k ∧ Hid (wr.ownsRow w1.heap.size 36 2 o k (frs ((l.take k).map stF))) ∧ Hid (Ext w1 wr)) (fun i _ _ => l.length - (intOf i).toNat)
  case atStart => exact ⟨0, Nat.zero_le _, rfl, World.ownsRow_nil _ _ _ _, Ext.refl _⟩
  case round =>
    obtain ⟨k, hk, rfl, HO, HX⟩ := hrel
    by_cases hlt : k < l.length
    · obtain ⟨Ax, cx, e1, _, rd⟩ := R1.out.ext HX.out
      rw [sls_length] at rd e1
      obtain ⟨ad, e2, ca⟩ := rd (by omega)
      injection e1 with e3 e4 e5
      subst e3 e5
      subst e2
      clear e4
      have c1 := ca k _ (sls_get l k hlt)
      have h0 : (0 : Int) ≤ k := by omega
      have h1 : (k : Int) < l.length := by omega
      have C2 := Lib.hid (fun W => mpOf_calls l[k] (HB.out _ (List.getElem_mem hlt)) (HL.out _ (List.getElem_mem hlt)) W)
      have TK : Hid (frs ((l.take (k + 1)).map stF) = frs ((l.take k).map stF) ++ [.int .i64 (sN l[k] : Nat), .int .i64 (sD l[k] : Nat)]) := by
        show _ = _
        rw [List.take_add_one, List.getElem?_eq_getElem hlt, List.map_append, frs_append]; rfl
      clear ca rd
      generalize sN l[k] = sn at *
      generalize sD l[k] = sd at *
      generalize l[k] = a at *
      go_wp2_with fail
      refine (C2.out _).mono ?_
      rintro e w2 ⟨rfl, x2⟩
      have O2 := row_ext (row_ext HO.out x2) ((Ext.refl w2).alloc (.cells #[.int .i64 (sn : Nat), .int .i64 (sd : Nat)] 36))
      have X2 := Lib.hid ((HX.out.trans x2).alloc (.cells #[.int .i64 (sn : Nat), .int .i64 (sd : Nat)] 36))
      have LO := Lib.hid (fun j hj => (O2.lt j hj).1)
      clear x2
      go_wp2_with (at_builtin; refine wpList_appK rfl (.tmp 13) (.tmp 16) 42 rfl w1.heap.size 36 _ 2 16 Try.underlying42 infoFr rfl (by omega) _ k 1 1 _ _ [.int .i64 (sn : Nat), .int .i64 (sd : Nat)] rfl rfl O2 rfl (new_cells w2 #[.int .i64 (sn : Nat), .int .i64 (sd : Nat)] _) (by simp [Value.oneCell']) (by unfold maxLen; omega) (by omega) X2.out.size ?_; intro v4 w4 o4 g4 _)
      have X4 := Lib.hid (X2.out.grown g4 LO.out)
      rw [← TK.out] at o4
      have O4 := Lib.hid o4
      clear o4 g4 O2
      go_wp2_with fail
      exact ⟨⟨k + 1, by omega, by go_num, O4.out, X4.out⟩, by simp [intOf]; omega⟩
    · have h1 : (l.length : Int) ≤ k := by omega
      obtain rfl : k = l.length := by omega
      have HO2 := HO.out
      rw [List.take_length] at HO2
      have HO2 := Lib.hid HO2
      go_wp2_with fail
      go_ret
      exact ⟨_, rfl, row_mono HO2.out X1.out.size, X1.out.trans HX.out⟩
set_option maxHeartbeats 1600000 in
theorem mpLess_calls (a b c d : Nat) (ha : a ≤ 1099511627776) (hb : b ≤ 1099511627776) (h1 : a * d ≤ 1125899906842624) (h2 : c * b ≤ 1125899906842624) (w : World) :
    Calls Try.prog 129 #[.agg #[.int .i64 a, .int .i64 b], .agg #[.int .i64 c, .int .i64 d]] w fun e w' => e = .returned (.bool (decide (a * d < c * b))) ∧ Ext w w' := by
  have X0 := Lib.hid (((Ext.refl w).alloc (.cells #[.int .i64 a, .int .i64 b] 36)).alloc (.cells #[.int .i64 c, .int .i64 d] 36))
  have p1 : (a : Int) * d = ((a * d : Nat) : Int) := (Int.natCast_mul a d).symm
  have p2 : (c : Int) * b = ((c * b : Nat) : Int) := (Int.natCast_mul c b).symm
  have q1 : ((a * d : Nat) : Int) ≤ 1125899906842624 := by omega
  have q2 : ((c * b : Nat) : Int) ≤ 1125899906842624 := by omega
  generalize a * d = x at *
  generalize c * b = y at *
  go_enter Try.func129, Try.ntmps129
  go_wp2_with fail
  go_ret
  exact ⟨rfl, X0.out⟩
theorem sN_mul (a : List UInt8) : sN a * 2 ^ a.length = nbI a a.length * sD a := by
  have g1 := Nat.gcd_dvd_left (nbI a a.length) (2 ^ a.length)
  have g2 := Nat.gcd_dvd_right (nbI a a.length) (2 ^ a.length)
  unfold sN sD
  rw [Nat.div_mul_right_comm g1, Nat.mul_div_assoc _ g2]
theorem sD_pos (a : List UInt8) : 0 < sD a := Nat.div_pos (Nat.le_of_dvd (Nat.two_pow_pos _) (Nat.gcd_dvd_right _ _)) (Nat.gcd_pos_of_pos_right _ (Nat.two_pow_pos _))
theorem sD_le (a : List UInt8) : sD a ≤ 2 ^ a.length := Nat.div_le_self _ _
theorem sN_le (a : List UInt8) : sN a ≤ 2 ^ a.length := Nat.le_trans (Nat.div_le_self _ _) (by have := nbI_lt a a.length; omega)
theorem sN_place (a : List UInt8) (h : a.length ≤ 40) : sN a * 1099511627776 = plA a * sD a := by
  have h1 := sN_mul a
  have h2 := plI_nbI a a.length h
  rw [← part_mul h, ← Nat.mul_assoc, h1]
  unfold plA
  rw [h2]
  simp only [Nat.mul_assoc, Nat.mul_comm, Nat.mul_left_comm]
theorem less_iff (a : List UInt8) (h : a.length ≤ 40) (m k : Nat) (hk : k ≤ 40) : (m * sD a < sN a * 2 ^ k) ↔ m * part k < plA a := by
  have h1 := sN_place a h
  have h2 := part_mul hk
  have sp := sD_pos a
  have e1 : m * sD a * 1099511627776 = m * part k * (sD a * 2 ^ k) := by rw [← h2]; simp only [Nat.mul_assoc, Nat.mul_comm, Nat.mul_left_comm]
  have e2 : sN a * 2 ^ k * 1099511627776 = plA a * (sD a * 2 ^ k) := by rw [Nat.mul_assoc, Nat.mul_comm (2 ^ k), ← Nat.mul_assoc, h1, Nat.mul_assoc]
  have pp : 0 < sD a * 2 ^ k := Nat.mul_pos sp (Nat.two_pow_pos k)
  constructor
  · intro hlt
    have : m * sD a * 1099511627776 < sN a * 2 ^ k * 1099511627776 := Nat.mul_lt_mul_of_pos_right hlt (by omega)
    rw [e1, e2] at this
    exact Nat.lt_of_mul_lt_mul_right this
  · intro hlt
    have : m * part k * (sD a * 2 ^ k) < plA a * (sD a * 2 ^ k) := Nat.mul_lt_mul_of_pos_right hlt pp
    rw [← e1, ← e2] at this
    exact Nat.lt_of_mul_lt_mul_right this
set_option maxHeartbeats 3200000 in
set_option maxRecDepth 100000 in
theorem mpLeaf_calls (T : Tr) (hd : T.depth ≤ 20) (hT : T.carets ≤ 1000) (m k : Nat) (hk : k ≤ 10) (hm : m ≤ 2 ^ k) (w : World) :
    Calls Try.prog 69 #[.string (tx T), .agg #[.int .i64 m, .int .i64 ((2 ^ k : Nat) : Int)]] w fun e w' => e = .returned (.int .i64 (si (m * part k) (addrs T []) 0 0 : Nat)) ∧ Ext w w' := by
  have X0 := Lib.hid ((Ext.refl w).alloc (.cells #[.int .i64 m, .int .i64 ((2 ^ k : Nat) : Int)] 36))
  have C1 := Lib.hid (fun W => mpStarts_calls T (by omega) hT W)
  have HL : Hid (∀ x ∈ addrs T [], x.length ≤ 20) := fun x hx => by have := addrs_depth T [] x hx; simp at this; omega
  have LA := addrs_length T []
  rw [← LA] at C1
  have L1 : (addrs T []).length ≤ 1001 := by omega
  have DK : 2 ^ k ≤ 1024 := Nat.pow_le_pow_right (n := 2) (by omega) hk
  have HLE : Hid (∀ a : List UInt8, a.length ≤ 20 → decide (m * sD a < sN a * 2 ^ k) = decide (m * part k < plA a)) := fun a ha => decide_eq_decide.2 (less_iff a (by omega) m k (by omega))
  generalize addrs T [] = l at *
  generalize tx T = t at *
  generalize m * part k = P at *
  generalize 2 ^ k = D at *
  clear hd hT LA hk
  have B0 : Hid ((w.alloc (.cells #[.int .i64 (m : Int), .int .i64 (D : Int)] 36)).heap[w.heap.size]? = some (.cells #[.int .i64 (m : Int), .int .i64 (D : Int)] 36)) := heap_alloc_new w _
  go_enter Try.func69, Try.ntmps69
  go_wp2_with fail
  generalize w.alloc (.cells #[.int .i64 (m : Int), .int .i64 (D : Int)] 36) = W at *
  refine (C1.out _).mono ?_
  rintro e w1 ⟨v1, rfl, o1, x1⟩
  have X1 := Lib.hid (X0.out.trans x1)
  have B1 := Lib.hid (x1.at B0.out)
  have O1 := Lib.hid o1
  obtain ⟨A1, q1, rfl⟩ : ∃ A q, v1 = .slice A l.length q := by
    rcases o1.2 with ⟨rfl, h0⟩ | ⟨g, cap, cur, rfl, _⟩
    · exact ⟨none, 0, by rw [h0]⟩
    · exact ⟨_, _, rfl⟩
  clear o1 x1
  go_wp2_with fail
  go_loopw [11, 5] (fun i lf wr => ∃ j c : Nat, j ≤ l.length ∧ i = .int .i64 j ∧ lf = .int .i64 c ∧ Hid (si P (l.drop j) j c = si P l 0 0) ∧ Hid (Ext w1 wr)) (fun i _ _ => l.length - (intOf i).toNat)
  case atStart => exact ⟨0, 0, Nat.zero_le _, rfl, rfl, rfl, Ext.refl _⟩
  case round =>
    obtain ⟨j, c, hj, rfl, rfl, HS, HX⟩ := hrel
    by_cases hlt : j < l.length
    · obtain ⟨g, cap, e1, hcell⟩ := new_slice_cell O1.out (by omega)
      injection e1 with e2 e3 e4
      subst e2 e4
      clear e3
      have hget := frs_get (l.map stF) j (stF l[j]) (by rw [List.getElem?_map, List.getElem?_eq_getElem hlt]; rfl)
      have la := HL.out _ (List.getElem_mem hlt)
      have d0 : wr.cell? ⟨g, j * 2, none⟩ = some (.int .i64 (sN l[j] : Nat)) := HX.out.cell (hcell _ _ hget.1)
      have d1 : wr.cell? ⟨g, j * 2 + 1, none⟩ = some (.int .i64 (sD l[j] : Nat)) := HX.out.cell (hcell _ _ hget.2)
      have h0 : (0 : Int) ≤ j := by omega
      have h1 : (j : Int) < l.length := by omega
      have p20 : 2 ^ l[j].length ≤ 1048576 := Nat.pow_le_pow_right (n := 2) (by omega) la
      have n1 := sN_le l[j]
      have n2 := sD_le l[j]
      have CL := Lib.hid (fun W => mpLess_calls m D (sN l[j]) (sD l[j]) (by omega) (by omega) (Nat.le_trans (Nat.mul_le_mul hm n2) (Nat.le_trans (Nat.mul_le_mul DK p20) (by decide))) (Nat.le_trans (Nat.mul_le_mul n1 DK) (Nat.le_trans (Nat.mul_le_mul_right _ p20) (by decide))) W)
      rw [HLE.out _ la] at CL
      have ST : Hid (si P (l.drop j) j c = si P (l.drop (j + 1)) (j + 1) (if plA l[j] ≤ P then j else c)) := by
        show _ = _
        rw [List.drop_eq_getElem_cons hlt]; rfl
      generalize sN l[j] = sn at *
      generalize sD l[j] = sd at *
      clear hget hcell p20 n1 n2 la
      have NB := Lib.hid (((HX.out.at B1.out)))
      obtain ⟨c0, c1⟩ := cells_of (((Ext.refl wr).alloc (.cells #[.int .i64 (sn : Nat), .int .i64 (sd : Nat)] 36)).at NB.out)
      obtain ⟨c2, c3⟩ := cells_of (heap_alloc_new wr (.cells #[.int .i64 (sn : Nat), .int .i64 (sd : Nat)] 36))
      have XL := Lib.hid (HX.out.alloc (.cells #[.int .i64 (sn : Nat), .int .i64 (sd : Nat)] 36))
      by_cases hp : plA l[j] ≤ P
      · rw [if_pos hp] at ST
        rw [decide_eq_false (by omega)] at CL
        have HS2 := Lib.hid (ST.out.symm.trans HS.out)
        clear hp
        go_wp2_with fail
        refine (CL.out _).mono ?_
        rintro e w2 ⟨rfl, x2⟩
        have X2 := Lib.hid (XL.out.trans x2)
        clear x2
        go_wp2_with fail
        exact ⟨⟨j + 1, j, by omega, by go_num, rfl, HS2.out, X2.out⟩, by simp [intOf]; omega⟩
      · rw [if_neg hp] at ST
        rw [decide_eq_true (by omega)] at CL
        have HS2 := Lib.hid (ST.out.symm.trans HS.out)
        clear hp
        go_wp2_with fail
        refine (CL.out _).mono ?_
        rintro e w2 ⟨rfl, x2⟩
        have X2 := Lib.hid (XL.out.trans x2)
        clear x2
        go_wp2_with fail
        exact ⟨⟨j + 1, c, by omega, by go_num, rfl, HS2.out, X2.out⟩, by simp [intOf]; omega⟩
    · have h1 : (l.length : Int) ≤ j := by omega
      obtain rfl : j = l.length := by omega
      have HS2 : Hid (si P l 0 0 = c) := by show _ = _; rw [← HS.out, List.drop_length]; rfl
      go_wp2_with fail
      go_ret
      exact ⟨by rw [HS2.out]; rfl, X1.out.trans HX.out⟩
end Go.Proofs.Ytijnadjgmmednaa.N
namespace Go.Proofs.Ytijnadjgmmednaa.N
theorem low_eq {a b c d : Nat} (hb : 0 < b) (hd : 0 < d) (h : a * d = c * b) : a / Nat.gcd a b = c / Nat.gcd c d ∧ b / Nat.gcd a b = d / Nat.gcd c d := by
  have g1 := Nat.gcd_pos_of_pos_right a hb
  have g2 := Nat.gcd_pos_of_pos_right c hd
  have co1 : Nat.Coprime (a / Nat.gcd a b) (b / Nat.gcd a b) := Nat.coprime_div_gcd_div_gcd g1
  have co2 : Nat.Coprime (c / Nat.gcd c d) (d / Nat.gcd c d) := Nat.coprime_div_gcd_div_gcd g2
  have ea := Nat.div_mul_cancel (Nat.gcd_dvd_left a b)
  have eb := Nat.div_mul_cancel (Nat.gcd_dvd_right a b)
  have ec := Nat.div_mul_cancel (Nat.gcd_dvd_left c d)
  have ed := Nat.div_mul_cancel (Nat.gcd_dvd_right c d)
  have bp : 0 < b / Nat.gcd a b := Nat.div_pos (Nat.le_of_dvd hb (Nat.gcd_dvd_right a b)) g1
  have dp : 0 < d / Nat.gcd c d := Nat.div_pos (Nat.le_of_dvd hd (Nat.gcd_dvd_right c d)) g2
  generalize Nat.gcd a b = g at *
  generalize Nat.gcd c d = g' at *
  generalize a / g = a' at *
  generalize b / g = b' at *
  generalize c / g' = c' at *
  generalize d / g' = d' at *
  have h2 : a' * d' = c' * b' := by
    have : a' * d' * (g * g') = c' * b' * (g * g') := by
      have h := h
      rw [← ea, ← eb, ← ec, ← ed] at h
      rw [show a' * d' * (g * g') = a' * g * (d' * g') by simp only [Nat.mul_assoc, Nat.mul_comm, Nat.mul_left_comm], h]
      simp only [Nat.mul_assoc, Nat.mul_comm, Nat.mul_left_comm]
    exact Nat.eq_of_mul_eq_mul_right (Nat.mul_pos g1 g2) this
  have i1 : b' ∣ d' := co1.symm.dvd_of_dvd_mul_left (by rw [h2]; exact Nat.dvd_mul_left b' c')
  have i2 : d' ∣ b' := co2.symm.dvd_of_dvd_mul_left (by rw [← h2]; exact Nat.dvd_mul_left d' a')
  have e : b' = d' := Nat.dvd_antisymm i1 i2
  subst e
  exact ⟨Nat.eq_of_mul_eq_mul_right bp h2, rfl⟩
theorem halve_gcd : ∀ (f p : Nat), halve f p (2 ^ f) = (p / Nat.gcd p (2 ^ f), 2 ^ f / Nat.gcd p (2 ^ f))
  | 0, p => by simp [halve]
  | f + 1, p => by
    have h1 : 1 < 2 ^ (f + 1) := Nat.one_lt_two_pow (by omega)
    by_cases hp : p % 2 = 0
    · have e : p = 2 * (p / 2) := by omega
      have e2 : 2 ^ (f + 1) / 2 = 2 ^ f := by rw [Nat.pow_succ]; omega
      simp only [halve]
      rw [if_pos ⟨h1, hp⟩, e2, halve_gcd f (p / 2)]
      have eg : Nat.gcd p (2 ^ (f + 1)) = 2 * Nat.gcd (p / 2) (2 ^ f) := by
        rw [Nat.pow_succ, Nat.mul_comm (2 ^ f) 2]
        conv => lhs; rw [e]
        exact Nat.gcd_mul_left 2 _ _
      rw [eg]
      congr 1
      · rw [Nat.div_div_eq_div_mul]
      · rw [Nat.pow_succ, Nat.mul_comm (2 ^ f) 2, Nat.mul_div_mul_left _ _ (by omega)]
    · rw [halve_stop _ _ _ (fun h => hp h.2)]
      have hc : Nat.gcd p (2 ^ (f + 1)) = 1 := by
        have : Nat.Coprime p 2 := by
          show Nat.gcd p 2 = 1
          rw [Nat.gcd_comm, Nat.gcd_rec, show p % 2 = 1 by omega]; rfl
        exact Nat.Coprime.pow_right _ this
      rw [hc]; simp
theorem halve_good : ∀ (f p : Nat), p ≤ 2 ^ f → ∃ j, j ≤ f ∧ (halve f p (2 ^ f)).2 = 2 ^ j ∧ (halve f p (2 ^ f)).1 ≤ 2 ^ j ∧ (j = 0 ∨ (halve f p (2 ^ f)).1 % 2 = 1)
  | 0, p, h => ⟨0, Nat.le_refl _, rfl, h, .inl rfl⟩
  | f + 1, p, h => by
    have h1 : 1 < 2 ^ (f + 1) := Nat.one_lt_two_pow (by omega)
    by_cases hp : p % 2 = 0
    · have e2 : 2 ^ (f + 1) / 2 = 2 ^ f := by rw [Nat.pow_succ]; omega
      simp only [halve]
      rw [if_pos ⟨h1, hp⟩, e2]
      obtain ⟨j, h2, h3⟩ := halve_good f (p / 2) (by rw [Nat.pow_succ] at h; omega)
      exact ⟨j, by omega, h3⟩
    · rw [halve_stop _ _ _ (fun h => hp h.2)]
      exact ⟨f + 1, Nat.le_refl _, rfl, h, .inr (by simp only; omega)⟩
theorem goodB_halve (V : Nat) (h : V ≤ 1099511627776) : goodB ((halve 40 V 1099511627776).1 : Nat) ((halve 40 V 1099511627776).2 : Nat) = decide ((halve 40 V 1099511627776).2 ≤ 1024) := by
  obtain ⟨j, h1, h2, h3, h4⟩ := halve_good 40 V h
  rw [show (2 : Nat) ^ 40 = 1099511627776 from rfl] at h2 h3 h4
  generalize halve 40 V 1099511627776 = x at *
  obtain ⟨q, d⟩ := x
  simp only at h2 h3 h4 ⊢
  subst h2
  by_cases hd : 2 ^ j ≤ 1024
  · have hj : j ≤ 10 := by
      rcases Nat.lt_or_ge 10 j with hj | hj
      · have : 2 ^ 11 ≤ 2 ^ j := Nat.pow_le_pow_right (by omega) hj
        omega
      · exact hj
    have p1 : 1 ≤ 2 ^ j := Nat.one_le_two_pow
    rw [decide_eq_true hd, goodB_in p1 hd ((isP2_iff _).2 ⟨j, hj, rfl⟩) ⟨by omega, by omega⟩]
    rcases h4 with rfl | h4
    · simp
    · have : ((q : Int) % 2 == 1) = true := by rw [beq_iff_eq]; omega
      rw [this, Bool.or_true]
  · rw [decide_eq_false hd, goodB_far (by omega)]
theorem vaL_exact (a b : List UInt8) (m k : Nat) (ha : a.length ≤ 20) (hb : b.length ≤ 20) (hk : k ≤ 10) (h1 : plA a ≤ m * part k) : vaL a b (m * part k) * 2 ^ b.length = plA b * 2 ^ b.length + (m * part k - plA a) * 2 ^ a.length := by
  unfold vaL
  split
  · rename_i h
    rw [Nat.add_mul]
    congr 1
    rw [Nat.mul_assoc, ← Nat.pow_add, show a.length - b.length + b.length = a.length by omega]
  · rename_i h
    rw [Nat.add_mul]
    congr 1
    have hdv : 2 ^ (b.length - a.length) ∣ m * part k - plA a := by
      have d1 : 2 ^ 20 ∣ m * part k := Nat.dvd_trans (Nat.pow_dvd_pow 2 (show 20 ≤ 40 - k by omega)) (Nat.dvd_mul_left _ _)
      have d2 : 2 ^ 20 ∣ plA a := by
        unfold plA
        rw [plI_nbI a a.length (by omega)]
        exact Nat.dvd_trans (Nat.pow_dvd_pow 2 (show 20 ≤ 40 - a.length by omega)) (Nat.dvd_mul_left _ _)
      exact Nat.dvd_trans (Nat.pow_dvd_pow 2 (show b.length - a.length ≤ 20 by omega)) (Nat.dvd_sub d1 d2)
    have e := Nat.div_mul_cancel hdv
    rw [show 2 ^ b.length = 2 ^ (b.length - a.length) * 2 ^ a.length by rw [← Nat.pow_add]; congr 1; omega, ← Nat.mul_assoc, e]
def nuF (a b : List UInt8) (m D : Nat) : Nat := (m * sD a - sN a * D) * 2 ^ a.length * sD b + sN b * (D * sD a * 2 ^ b.length)
def deF (a b : List UInt8) (D : Nat) : Nat := D * sD a * 2 ^ b.length * sD b
theorem nuF_eq (a b : List UInt8) (m k : Nat) (ha : a.length ≤ 20) (hb : b.length ≤ 20) (hk : k ≤ 10) (h1 : plA a ≤ m * part k) : nuF a b m (2 ^ k) * 1099511627776 = vaL a b (m * part k) * deF a b (2 ^ k) := by
  have e := vaL_exact a b m k ha hb hk h1
  have pa := sN_place a (by omega)
  have pb := sN_place b (by omega)
  have pk := part_mul (show k ≤ 40 by omega)
  generalize (1099511627776 : Nat) = G at *
  have s1 : (m * sD a - sN a * 2 ^ k) * G = (m * part k - plA a) * (sD a * 2 ^ k) := by
    rw [Nat.sub_mul, Nat.sub_mul]
    congr 1
    · rw [← pk]; simp only [Nat.mul_assoc, Nat.mul_comm, Nat.mul_left_comm]
    · rw [Nat.mul_assoc, Nat.mul_comm (2 ^ k), ← Nat.mul_assoc, pa, Nat.mul_assoc]
  unfold nuF deF
  rw [Nat.add_mul]
  have t1 : (m * sD a - sN a * 2 ^ k) * 2 ^ a.length * sD b * G = (m * part k - plA a) * 2 ^ a.length * (sD a * 2 ^ k * sD b) := by
    rw [show (m * sD a - sN a * 2 ^ k) * 2 ^ a.length * sD b * G = (m * sD a - sN a * 2 ^ k) * G * (2 ^ a.length * sD b) by simp only [Nat.mul_assoc, Nat.mul_comm, Nat.mul_left_comm], s1]
    simp only [Nat.mul_assoc, Nat.mul_comm, Nat.mul_left_comm]
  have t2 : sN b * (2 ^ k * sD a * 2 ^ b.length) * G = plA b * 2 ^ b.length * (sD a * 2 ^ k * sD b) := by
    rw [show sN b * (2 ^ k * sD a * 2 ^ b.length) * G = sN b * G * (2 ^ k * sD a * 2 ^ b.length) by simp only [Nat.mul_assoc, Nat.mul_comm, Nat.mul_left_comm], pb]
    simp only [Nat.mul_assoc, Nat.mul_comm, Nat.mul_left_comm]
  rw [t1, t2, ← Nat.add_mul, Nat.add_comm, ← e]
  simp only [Nat.mul_assoc, Nat.mul_comm, Nat.mul_left_comm]
theorem deF_pos (a b : List UInt8) (k : Nat) : 0 < deF a b (2 ^ k) := Nat.mul_pos (Nat.mul_pos (Nat.mul_pos (Nat.two_pow_pos _) (sD_pos a)) (Nat.two_pow_pos _)) (sD_pos b)
theorem low_halve (a b : List UInt8) (m k : Nat) (ha : a.length ≤ 20) (hb : b.length ≤ 20) (hk : k ≤ 10) (h1 : plA a ≤ m * part k) :
    (nuF a b m (2 ^ k) / Nat.gcd (nuF a b m (2 ^ k)) (deF a b (2 ^ k)), deF a b (2 ^ k) / Nat.gcd (nuF a b m (2 ^ k)) (deF a b (2 ^ k))) = halve 40 (vaL a b (m * part k)) 1099511627776 := by
  obtain ⟨e1, e2⟩ := low_eq (deF_pos a b k) (show 0 < 1099511627776 by omega) (nuF_eq a b m k ha hb hk h1)
  rw [e1, e2]
  exact (halve_gcd 40 _).symm
end Go.Proofs.Ytijnadjgmmednaa.N
