import Derived.Test.YtijnadjgmmednaaXe12
import Derived.Test.YtijnadjgmmednaaXe17
import Derived.Test.YtijnadjgmmednaaXe18
/- A part of the proof: lemmas that later parts use. -/
set_option linter.unusedVariables false
set_option linter.unusedSimpArgs false
namespace Go.Proofs.Ytijnadjgmmednaa.N
theorem first_addr : ∀ (T : Tr) (a : List UInt8), ∃ x, (addrs T a)[0]? = some x ∧ x.length = a.length + ld T
  | .leaf, a => ⟨a, rfl, rfl⟩
  | .node l r, a => by
    obtain ⟨x, h1, h2⟩ := first_addr l (a ++ [48])
    refine ⟨x, ?_, ?_⟩
    · simp only [addrs]
      rw [List.getElem?_append_left (by rw [addrs_length]; omega)]
      exact h1
    · rw [h2]; simp [ld]; omega
theorem last_addr : ∀ (T : Tr) (a : List UInt8), ∃ x, (addrs T a)[T.carets]? = some x ∧ x.length = a.length + rdp T
  | .leaf, a => ⟨a, rfl, rfl⟩
  | .node l r, a => by
    obtain ⟨x, h1, h2⟩ := last_addr r (a ++ [49])
    refine ⟨x, ?_, ?_⟩
    · simp only [addrs, Tr.carets]
      rw [List.getElem?_append_right (by rw [addrs_length]; omega), addrs_length, show 1 + l.carets + r.carets - (l.carets + 1) = r.carets by omega]
      exact h1
    · rw [h2]; simp [rdp]; omega
theorem slp_get {A B : Tr} {i : Nat} {a b : List UInt8} (h1 : (addrs A [])[i]? = some a) (h2 : (addrs B [])[i]? = some b) : (slp A B).getD i 0 = (a.length : Int) - b.length := by
  unfold slp slpL
  rw [List.getD_eq_getElem?_getD, List.getElem?_zipWith, h1, h2]; rfl
theorem slp_ends {A B : Tr} (hc : A.carets = B.carets) : (slp A B).getD 0 0 = az (A, B) ∧ (slp A B).getD A.carets 0 = bz (A, B) := by
  obtain ⟨a, ha, la⟩ := first_addr A []
  obtain ⟨b, hb, lb⟩ := first_addr B []
  obtain ⟨c, hc', lc⟩ := last_addr A []
  obtain ⟨d, hd, ld'⟩ := last_addr B []
  rw [← hc] at hd
  constructor
  · rw [slp_get ha hb]; unfold az; simp at la lb; simp only; omega
  · rw [slp_get hc' hd]; unfold bz; simp at lc ld'; simp only; omega
theorem fi_before (p : Nat) (hp : 1 ≤ p) : ∀ (l : List (List UInt8)) (s e : Nat), Chn s e l → l ≠ [] → s < p → p ≤ e →
    ∃ a, l[fi p l]? = some a ∧ (plA a = p → 1 ≤ fi p l ∧ fi (p - 1) l = fi p l - 1) ∧ (plA a ≠ p → fi (p - 1) l = fi p l)
  | [], _, _, _, h, _, _ => absurd rfl h
  | a :: l, s, e, ⟨h1, h2⟩, _, hs, he => by
    have hpos : 0 < part a.length := by unfold part; exact Nat.two_pow_pos _
    by_cases hin : p < plA a + part a.length
    · have e1 : fi p (a :: l) = 0 := by simp [fi, hin]
      have e2 : fi (p - 1) (a :: l) = 0 := by simp only [fi]; rw [if_pos (by omega)]
      exact ⟨a, by rw [e1]; rfl, fun h => by omega, fun _ => by rw [e1, e2]⟩
    · by_cases hl : l = []
      · have e1 : fi p (a :: l) = 0 := by simp [fi, hin, hl]
        have e2 : fi (p - 1) (a :: l) = 0 := by simp only [fi]; split <;> simp [hl]
        subst hl
        exact ⟨a, by rw [e1]; rfl, fun h => by omega, fun _ => by rw [e1, e2]⟩
      · have e1 : fi p (a :: l) = 1 + fi p l := by simp [fi, hin, hl]
        by_cases hb : p = plA a + part a.length
        ·
          cases l with
          | nil => exact absurd rfl hl
          | cons b m =>
            have hb1 : plA b = p := by have := h2.1; omega
            have hbp : 0 < part b.length := by unfold part; exact Nat.two_pow_pos _
            have e3 : fi p (b :: m) = 0 := by simp only [fi]; rw [if_pos (by omega)]
            have e2 : fi (p - 1) (a :: b :: m) = 0 := by simp only [fi]; rw [if_pos (by omega)]
            refine ⟨b, by rw [e1, e3]; rfl, fun _ => ⟨by omega, by rw [e1, e2, e3]⟩, fun h => absurd hb1 h⟩
        · obtain ⟨x, hx, k1, k2⟩ := fi_before p hp l (s + part a.length) e h2 hl (by omega) he
          have e2 : fi (p - 1) (a :: l) = 1 + fi (p - 1) l := by
            have : ¬ p - 1 < plA a + part a.length := by omega
            simp [fi, this, hl]
          refine ⟨x, by rw [e1, Nat.add_comm, List.getElem?_cons_succ]; exact hx, fun h => ?_, fun h => ?_⟩
          · obtain ⟨q1, q2⟩ := k1 h
            exact ⟨by omega, by rw [e1, e2, q2]; omega⟩
          · rw [e1, e2, k2 h]
end Go.Proofs.Ytijnadjgmmednaa.N
namespace Go.Proofs.Ytijnadjgmmednaa.N
open Go.RowKit
set_option maxHeartbeats 6400000 in
set_option maxRecDepth 100000 in
theorem mpSlopes_calls (A B : Tr) (hc : A.carets = B.carets) (hB : B.carets ≤ 8) (w : World) :
    Calls Try.prog 61 #[.agg #[.string (tx A), .string (tx B)]] w fun e w' => ∃ v, e = .returned v ∧ Own w' w.heap.size 3 v (ints (slp A B)) ∧ Ext w w' := by
  have X0 := Lib.hid ((Ext.refl w).alloc (.cells #[.string (tx A), .string (tx B)] 25))
  have B0 := Lib.hid (heap_alloc_new w (.cells #[.string (tx A), .string (tx B)] 25))
  obtain ⟨b0, b1⟩ := cells_of B0.out
  have dA := A.depth_le
  have dB := B.depth_le
  have C1 := Lib.hid (fun W => trAddresses_calls A [] ⟨#[]⟩ W (by omega) (by omega) (by simp; omega) rfl)
  have C2 := Lib.hid (fun W => trAddresses_calls B [] ⟨#[]⟩ W (by omega) (by omega) (by simp; omega) rfl)
  have LA := addrs_length A []
  have LB := addrs_length B []
  have DA : Hid (∀ x ∈ addrs A [], x.length ≤ 40) := fun x hx => by have := addrs_depth A [] x hx; simp at *; omega
  have DB : Hid (∀ x ∈ addrs B [], x.length ≤ 40) := fun x hx => by have := addrs_depth B [] x hx; simp at *; omega
  have LL : Hid ((addrs A []).length = (addrs B []).length) := by show _ = _; omega
  have L31 : (addrs A []).length ≤ 31 := by omega
  have L1 : 0 < (addrs A []).length := by omega
  unfold slp
  generalize addrs A [] = la at *
  generalize addrs B [] = lb at *
  generalize tx A = s at *
  generalize tx B = t at *
  clear hc hB LA LB dA dB
  go_enter Try.func61, Try.ntmps61
  go_wp2_with fail
  generalize w.alloc (.cells #[.string s, .string t] 25) = W at *
  refine (C2.out _).mono ?_
  rintro e w1 ⟨v1, rfl, o1, x1⟩
  have O1 := Lib.hid o1
  have X1 := Lib.hid (X0.out.trans x1)
  obtain ⟨b0, b1⟩ := cells_of (x1.at B0.out)
  clear x1 o1
  go_wp2_with fail
  refine (C1.out _).mono ?_
  rintro e w2 ⟨v2, rfl, o2, x2⟩
  have O1 := Lib.hid (O1.out.ext x2)
  have O2 := Lib.hid o2
  have X2 := Lib.hid (X1.out.trans x2)
  obtain ⟨A2, q2, rfl, _, rd2⟩ := o2.reads
  rw [sls_length] at rd2 ⊢
  obtain ⟨ad2, rfl, ca2⟩ := rd2 L1
  obtain ⟨A1, q1, rfl, _, rd1⟩ := O1.out.reads
  rw [sls_length] at rd1
  obtain ⟨ad1, rfl, ca1⟩ := rd1 (by have := LL.out; omega)
  have CA1 := Lib.hid ca1
  have CA2 := Lib.hid ca2
  clear x2 o2 rd1 rd2 ca1 ca2 O1 O2 b0 b1
  rw [sls_length]
  generalize hn2 : lb.length = n2 at *
  replace hn2 := Lib.hid hn2
  go_wp2_with fail
  go_loopw [14, 3] (fun i o wr => ∃ k : Nat, k ≤ la.length ∧ i = .int .i64 k ∧ Hid (Own wr w2.heap.size 3 o (ints (slpL (la.take k) (lb.take k)))) ∧ Hid (Ext w2 wr)) (fun i _ _ => la.length - (intOf i).toNat)
  case atStart => exact ⟨0, Nat.zero_le _, rfl, Own.nil _ _ _, Ext.refl _⟩
  case round =>
    obtain ⟨k, hk, rfl, HO, HX⟩ := hrel
    by_cases hlt : k < la.length
    · have hlt2 : k < lb.length := by have := LL.out; have := hn2.out; omega
      have HA := List.getElem?_eq_getElem hlt
      have HB := List.getElem?_eq_getElem hlt2
      have LA := DA.out _ (List.getElem_mem hlt)
      have LB := DB.out _ (List.getElem_mem hlt2)
      have c0 : wr.cell? (ad2.add k) = some (.string (S la[k])) := HX.out.cell (CA2.out k _ (sls_get la k hlt))
      have c1 : wr.cell? (ad1.add k) = some (.string (S lb[k])) := HX.out.cell (CA1.out k _ (sls_get lb k hlt2))
      have ST := Lib.hid (slpL_take la lb k _ _ HA HB)
      have SL : Hid ((slpL (la.take k) (lb.take k)).length = k) := by show _ = _; rw [slpL_length _ _ (by simp; have := LL.out; have := hn2.out; omega), List.length_take]; omega
      have z1 : (S la[k]).size = la[k].length := S_size _
      have z2 : (S lb[k]).size = lb[k].length := S_size _
      have g0 : (0 : Int) ≤ k := by omega
      have g1 : (k : Int) < la.length := by omega
      have g2 : (k : Int) < n2 := by have := LL.out; omega
      clear HA HB
      generalize S la[k] = sa at *
      generalize S lb[k] = sb at *
      generalize la[k].length = l1 at *
      generalize lb[k].length = l2 at *
      rw [← z1, ← z2] at ST
      have y1 : (sa.size : Int) ≤ 40 := by omega
      have y2 : (sb.size : Int) ≤ 40 := by omega
      have y3 : (0 : Int) ≤ sa.size := by omega
      have y4 : (0 : Int) ≤ sb.size := by omega
      clear z1 z2 LA LB
      generalize slpL (la.take k) (lb.take k) = P at *
      have O2 := HO.out.ext ((Ext.refl wr).alloc (.cells #[.int .i64 ((sa.size : Int) - sb.size)] 3))
      have RL : Hid (Reads (wr.alloc (.cells #[.int .i64 ((sa.size : Int) - sb.size)] 3)) (.slice (some ⟨wr.heap.size, 0, none⟩) 1 1) (ints [(sa.size : Int) - sb.size])) := (Own.lit wr 0 3 #[.int .i64 ((sa.size : Int) - sb.size)] (Nat.zero_le _) (by show 1 ≤ maxLen; decide)).reads
      have LT : Hid (((ints P).length + (ints [(sa.size : Int) - sb.size]).length) * 8 ≤ 140737488355328) := by show _ ≤ _; rw [ints_length, ints_length, SL.out]; simp only [List.length_singleton]; omega
      have B1 := Lib.hid (HX.out.alloc (.cells #[.int .i64 ((sa.size : Int) - sb.size)] 3)).size
      go_wp2_with (at_builtin; refine wpList_app rfl (.tmp 19) (.tmp 28) 89 rfl w2.heap.size 3 (.int .i64 0) 8 Try.underlying89 infoInt rfl (by omega) _ _ _ (ints [(sa.size : Int) - sb.size]) rfl rfl O2 RL.out (ints_one _) LT.out B1.out ?_; intro v4 w4 o4 g4 _)
      have X4 := Lib.hid ((HX.out.alloc (.cells #[.int .i64 ((sa.size : Int) - sb.size)] 3)).grown g4 O2.lo)
      have O4 : Hid (Own w4 w2.heap.size 3 v4 (ints (P ++ [(sa.size : Int) - sb.size]))) := by
        have : ints (P ++ [(sa.size : Int) - sb.size]) = ints P ++ ints [(sa.size : Int) - sb.size] := by simp [ints]
        show Own _ _ _ _ _
        rw [this]; exact o4
      clear o4 g4 O2
      go_wp2_with fail
      exact ⟨⟨k + 1, by omega, by go_num, by rw [ST.out]; exact O4.out, X4.out⟩, by simp [intOf]; omega⟩
    · obtain rfl : k = la.length := by omega
      have g1 : ¬ ((la.length : Nat) : Int) < la.length := by omega
      have EQ : Hid (slpL (la.take la.length) (lb.take la.length) = slpL la lb) := by show _ = _; rw [List.take_length, LL.out, List.take_of_length_le (by have := hn2.out; omega)]
      go_wp2_with fail
      go_ret
      exact ⟨_, rfl, by rw [← EQ.out]; exact HO.out.mono X2.out.size, X2.out.trans HX.out⟩
end Go.Proofs.Ytijnadjgmmednaa.N
namespace Go.Proofs.Ytijnadjgmmednaa.N
open Go.RowKit
theorem stF_iff (a : List UInt8) (ha : a.length ≤ 40) (m k : Nat) (hk : k ≤ 40) (ho : k = 0 ∨ m % 2 = 1) : ((sN a = m ∧ sD a = 2 ^ k) ↔ plA a = m * part k) := by
  have hP := sN_place a ha
  have hpm := part_mul hk
  have hpos : 0 < part k := by unfold part; exact Nat.two_pow_pos _
  constructor
  · rintro ⟨h1, h2⟩
    rw [h1, h2, ← hpm] at hP
    have h3 : plA a * 2 ^ k = (m * part k) * 2 ^ k := by rw [← hP]; rw [Nat.mul_comm (2 ^ k), Nat.mul_assoc]
    exact Nat.eq_of_mul_eq_mul_right (Nat.two_pow_pos k) h3
  · intro h
    rw [h, ← hpm] at hP
    have h3 : sN a * 2 ^ k = m * sD a := by
      have : (sN a * 2 ^ k) * part k = (m * sD a) * part k := by
        rw [Nat.mul_assoc, hP]; rw [Nat.mul_assoc, Nat.mul_assoc, Nat.mul_comm (part k)]
      exact Nat.eq_of_mul_eq_mul_right hpos this
    have hg : 0 < Nat.gcd (nbI a a.length) (2 ^ a.length) := Nat.gcd_pos_of_pos_right _ (Nat.two_pow_pos _)
    have c1 : Nat.Coprime (sN a) (sD a) := Nat.coprime_div_gcd_div_gcd hg
    have c2 : Nat.Coprime m (2 ^ k) := by
      rcases ho with rfl | ho
      · simp
      · refine Nat.Coprime.pow_right k ?_
        unfold Nat.Coprime
        have g1 := Nat.le_of_dvd (by omega) (Nat.gcd_dvd_right m 2)
        have g2 := Nat.gcd_dvd_left m 2
        have g3 : 0 < Nat.gcd m 2 := Nat.gcd_pos_of_pos_right _ (by omega)
        generalize Nat.gcd m 2 = g at *
        rcases (by omega : g = 1 ∨ g = 2) with rfl | rfl
        · rfl
        · omega
    have d1 : sD a ∣ 2 ^ k := c1.symm.dvd_of_dvd_mul_left (h3 ▸ Nat.dvd_mul_left _ _)
    have d2 : 2 ^ k ∣ sD a := c2.symm.dvd_of_dvd_mul_left (h3 ▸ Nat.dvd_mul_left _ _)
    have e := Nat.dvd_antisymm d1 d2
    refine ⟨?_, e⟩
    rw [e] at h3
    exact Nat.eq_of_mul_eq_mul_right (Nat.two_pow_pos k) h3
theorem cells3 {w1 w2 : World} {p q r : Addr} {x y z : Value} (h0 : w1.cell? p = some x) (h1 : w1.cell? q = some y) (h2 : w1.cell? r = some z) (h : Ext w1 w2) : w2.cell? p = some x ∧ w2.cell? q = some y ∧ w2.cell? r = some z ∧ Ext w1 w2 := ⟨h.cell h0, h.cell h1, h.cell h2, h⟩
set_option maxHeartbeats 6400000 in
set_option maxRecDepth 100000 in
theorem specBeside_yes (A B : Tr) (hc : A.carets = B.carets) (hB : B.carets ≤ 8) (m k : Nat) (hk : k ≤ 10) (hk1 : 1 ≤ k) (hm : m ≤ 2 ^ k) (hm1 : 1 ≤ m) (ho : k = 0 ∨ m % 2 = 1) (h : goodB m ((2 ^ k : Nat) : Int) = true) (w : World) :
    Calls Try.prog 18 #[.agg #[.string (tx A), .string (tx B)], .agg #[.int .i64 m, .int .i64 ((2 ^ k : Nat) : Int)]] w fun e w' => e = .returned (.tuple #[.int .i64 (slAt A B (m * part k - 1)), .int .i64 (slAt A B (m * part k)), .bool true]) ∧ Ext w w' := by
  have hle : m * part k ≤ 1099511627776 := by rw [← part_mul (show k ≤ 40 by omega)]; exact Nat.mul_le_mul_right _ hm
  have hp1 : 1 ≤ m * part k := Nat.mul_pos hm1 (by unfold part; exact Nat.two_pow_pos _)
  have dA := A.depth_le
  have CH : Chn 0 1099511627776 (addrs A []) := by have := addrs_chn A [] (by simp; omega); simpa [plA, plI, part_zero] using this
  have hne : addrs A [] ≠ [] := fun h => by have := addrs_length A []; rw [h] at this; simp at this
  obtain ⟨a, ha, k1, k2⟩ := fi_before (m * part k) hp1 (addrs A []) 0 1099511627776 CH hne (by omega) hle
  have hsi := si_fi (m * part k) (addrs A []) 0 1099511627776 0 0 CH hne (by omega) hle
  rw [Nat.zero_add] at hsi
  have hal : a.length ≤ 40 := by have := addrs_depth A [] a (List.mem_of_getElem? ha); simp at this; omega
  have hst := stF_iff a hal m k (by omega) ho
  have LA := addrs_length A []
  have hi : fi (m * part k) (addrs A []) < A.carets + 1 := by rw [← LA]; exact (List.getElem?_eq_some_iff.1 ha).1
  have SLn := slp_length A B hc
  have C1 := Lib.hid (fun W => prGood_yes A B hc hB W)
  have C2 := Lib.hid (fun W => mpGood_calls m ((2 ^ k : Nat) : Int) W)
  rw [h] at C2
  have C3 := Lib.hid (fun W => mpSlopes_calls A B hc hB W)
  have C4 := Lib.hid (fun W => mpLeaf_calls A (by omega) (by omega) m k hk hm W)
  rw [hsi] at C4
  have C5 := Lib.hid (fun W => mpStarts_calls A (by omega) (by omega) W)
  have FG := frs_get ((addrs A []).map stF) (fi (m * part k) (addrs A [])) (stF a) (by rw [List.getElem?_map, ha]; rfl)
  have hD1 : ¬ ((2 ^ k : Nat) : Int) = 1 := by have := Nat.pow_le_pow_right (show 0 < 2 by omega) hk1; omega
  have S2 : slAt A B (m * part k) = (slp A B).getD (fi (m * part k) (addrs A [])) 0 := by unfold slAt; rw [pcAt_fi]
  have S1 : slAt A B (m * part k - 1) = if (decide (sN a = m) && decide (sD a = 2 ^ k)) = true then (slp A B).getD (fi (m * part k) (addrs A []) - 1) 0 else (slp A B).getD (fi (m * part k) (addrs A [])) 0 := by
    unfold slAt
    rw [pcAt_fi]
    by_cases hq : plA a = m * part k
    · obtain ⟨e1, e2⟩ := hst.2 hq
      rw [if_pos (by rw [decide_eq_true e1, decide_eq_true e2]; rfl), (k1 hq).2]
    · rw [if_neg (fun hh => by rw [Bool.and_eq_true] at hh; exact hq (hst.1 ⟨of_decide_eq_true hh.1, of_decide_eq_true hh.2⟩)), k2 hq]
  have K1 : (decide (sN a = m) && decide (sD a = 2 ^ k)) = true → 1 ≤ fi (m * part k) (addrs A []) := fun hh => by
    rw [Bool.and_eq_true] at hh
    exact (k1 (hst.1 ⟨of_decide_eq_true hh.1, of_decide_eq_true hh.2⟩)).1
  rw [S1, S2]
  have FG1 := FG.1
  have FG2 := FG.2
  simp only [stF] at FG1 FG2
  have AN := Lib.hid (And.intro FG1 FG2)
  have KN := Lib.hid K1
  have LM : ((addrs A []).map stF).length = A.carets + 1 := by rw [List.length_map, LA]
  have LF : Hid (A.carets + 1 = (frs ((addrs A []).map stF)).length / 2) := by show _ = _; rw [frs_length, LM]; omega
  have i9 : fi (m * part k) (addrs A []) ≤ 8 := by omega
  have hcw : A.carets + 1 ≤ 9 := by omega
  generalize frs ((addrs A []).map stF) = fs at *
  generalize slp A B = xs at *
  generalize fi (m * part k) (addrs A []) = i at *
  generalize sN a = na at *
  generalize sD a = da at *
  generalize A.carets + 1 = n at *
  generalize 2 ^ k = D at *
  generalize tx A = s at *
  generalize tx B = t at *
  replace C1 := C1
  have SLn := Lib.hid SLn
  clear hc hB hk hk1 hm1 ho hle hp1 dA CH hne hal ha k1 k2 hsi FG FG1 FG2 LA LM hst K1 S1 S2 h hm LF
  obtain ⟨u, hu⟩ : ∃ u, xs.getD i 0 = u := ⟨_, rfl⟩
  obtain ⟨z, hz⟩ : ∃ z, xs.getD (i - 1) 0 = z := ⟨_, rfl⟩
  rw [hu, hz]
  have HU := Lib.hid (And.intro hu hz)
  clear hu hz
  obtain ⟨X0, b0⟩ : Hid (Ext w ((w.alloc (.cells #[.string s, .string t] 25)).alloc (.cells #[.int .i64 (m : Int), .int .i64 (D : Int)] 36))) ∧ ((w.alloc (.cells #[.string s, .string t] 25)).alloc (.cells #[.int .i64 (m : Int), .int .i64 (D : Int)] 36)).heap[w.heap.size + 1]? = some (.cells #[.int .i64 (m : Int), .int .i64 (D : Int)] 36) :=
    ⟨((Ext.refl w).alloc _).alloc _, by have := heap_alloc_new (w.alloc (.cells #[.string s, .string t] 25)) (.cells #[.int .i64 (m : Int), .int .i64 (D : Int)] 36); rwa [show (w.alloc (.cells #[.string s, .string t] 25)).heap.size = w.heap.size + 1 from Array.size_push _] at this⟩
  have a0 := ((Ext.refl (w.alloc (.cells #[.string s, .string t] 25))).alloc (.cells #[.int .i64 (m : Int), .int .i64 (D : Int)] 36)).at (heap_alloc_new w (.cells #[.string s, .string t] 25))
  obtain ⟨c0, c1⟩ := cells_of a0
  obtain ⟨c2, c3⟩ := cells_of b0
  have BB := Lib.hid (And.intro a0 b0)
  clear a0 b0
  go_enter Try.func18, Try.ntmps18
  go_wp2_with fail
  generalize (w.alloc (.cells #[.string s, .string t] 25)).alloc (.cells #[.int .i64 (m : Int), .int .i64 (D : Int)] 36) = W at *
  refine (C1.out _).mono ?_
  rintro e w1 ⟨rfl, x1⟩
  have X1 := Lib.hid (X0.out.trans x1)
  replace BB := Lib.hid (And.intro (x1.at BB.out.1) (x1.at BB.out.2))
  obtain ⟨c0, c1⟩ := cells_of BB.out.1
  obtain ⟨c2, c3⟩ := cells_of BB.out.2
  clear x1
  go_wp2_with fail
  refine (C2.out _).mono ?_
  rintro e w2 ⟨rfl, x2⟩
  have X2 := Lib.hid (X1.out.trans x2)
  replace BB := Lib.hid (And.intro (x2.at BB.out.1) (x2.at BB.out.2))
  obtain ⟨c0, c1⟩ := cells_of BB.out.1
  obtain ⟨c2, c3⟩ := cells_of BB.out.2
  clear x2
  go_wp2_with fail
  refine (C3.out _).mono ?_
  rintro e w3 ⟨v3, rfl, o3, x3⟩
  have X3 := Lib.hid (X2.out.trans x3)
  replace BB := Lib.hid (And.intro (x3.at BB.out.1) (x3.at BB.out.2))
  obtain ⟨c0, c1⟩ := cells_of BB.out.1
  obtain ⟨c2, c3⟩ := cells_of BB.out.2
  obtain ⟨A3, q3, rfl, _, rd3⟩ := o3.reads
  rw [ints_length, SLn.out] at rd3 ⊢
  obtain ⟨ad3, rfl, ca3⟩ := rd3 (by omega)
  have CA := Lib.hid ca3
  clear x3 o3 rd3 ca3
  go_wp2_with fail
  refine (C4.out _).mono ?_
  rintro e w4 ⟨rfl, x4⟩
  have X4 := Lib.hid (X3.out.trans x4)
  replace BB := Lib.hid (And.intro (x4.at BB.out.1) (x4.at BB.out.2))
  obtain ⟨c0, c1⟩ := cells_of BB.out.1
  obtain ⟨c2, c3⟩ := cells_of BB.out.2
  have G : ∀ j, j < n → w4.cell? (ad3.add j) = some (.int .i64 (xs.getD j 0)) := fun j hj => x4.cell (CA.out j _ (by rw [ints, List.getElem?_map, List.getElem?_eq_getElem (by have := SLn.out; omega), List.getD_eq_getElem?_getD, List.getElem?_eq_getElem (by have := SLn.out; omega)]; rfl))
  have ci : w4.cell? (ad3.add i) = some (.int .i64 u) := by have := G i hi; rwa [HU.out.1] at this
  have cz : w4.cell? (ad3.add (i - 1)) = some (.int .i64 z) := by have := G (i - 1) (by omega); rwa [HU.out.2] at this
  have CZ := Lib.hid (And.intro ci cz)
  have hi0 : (0 : Int) ≤ i := by omega
  have hi1 : (i : Int) < n := by omega
  clear x4 G cz
  go_wp2_with fail
  have SX := Lib.hid (And.intro c0 (And.intro c2 c3))
  by_cases h1 : na = m
  · by_cases h2 : da = D
    · subst h1
      subst h2
      have i1 : 1 ≤ i := KN.out (by simp)
      have hii : (if (decide (na = na) && decide (da = da)) = true then z else u) = z := by simp
      rw [show Op.load 36 (Operand.tmp 37) = shy (Op.load 36 (Operand.tmp 37)) from rfl]
      go_region_held3 (fun w' => w'.cell? ⟨w.heap.size, 0, none⟩ = some (.string s) ∧ w'.cell? ⟨w.heap.size + 1, 0, none⟩ = some (.int .i64 (na : Int)) ∧ w'.cell? ⟨w.heap.size + 1, 1, none⟩ = some (.int .i64 (da : Int)) ∧ Ext w4 w')
        (first | with_reducible exact cells3 SX.out.1 SX.out.2.1 SX.out.2.2 (Ext.refl _).drew | with_reducible exact cells3 SX.out.1 SX.out.2.1 SX.out.2.2 x5 | fail)
        (first
          | (go_at_call 70; refine (C5.out _).mono ?_; rintro e w5 ⟨v5, rfl, o5, hx5⟩; have x5 : Ext w4 w5 := (Ext.refl w4).drew.trans hx5; obtain ⟨g5, cp5, rfl, hcell5⟩ := new_slice_cell o5 (by omega); have s0 := hcell5 _ _ AN.out.1; have s1 := hcell5 _ _ AN.out.2; clear hcell5 o5)
          | fail)
      all_goals
        have ci' := x5.cell CZ.out.1
        have cz' := x5.cell CZ.out.2
        have hw : IntKind.i64.wrap ((i : Int) - 1) = ((i - 1 : Nat) : Int) := by simp only [IntKind.wrap, IntKind.bits, IntKind.signed]; simp; omega
        have hi2 : (0 : Int) ≤ ((i - 1 : Nat) : Int) := by omega
        have hi3 : ((i - 1 : Nat) : Int) < n := by omega
        have hi4 : (((i - 1 : Nat) : Int)).toNat = i - 1 := rfl
        generalize i - 1 = j at *
        go_wp2_with fail
        go_still (by kernel_rfl)
        go_wp2_with fail
        all_goals (go_ret3; exact ⟨rfl, (X4.out.trans x5).drew⟩)
    · have e2 : ((da : Int) == (D : Int)) = false := by rw [beq_eq_false_iff_ne]; omega
      subst h1
      rw [show Op.load 36 (Operand.tmp 37) = shy (Op.load 36 (Operand.tmp 37)) from rfl]
      go_region_held3 (fun w' => w'.cell? ⟨w.heap.size, 0, none⟩ = some (.string s) ∧ w'.cell? ⟨w.heap.size + 1, 0, none⟩ = some (.int .i64 (na : Int)) ∧ w'.cell? ⟨w.heap.size + 1, 1, none⟩ = some (.int .i64 (D : Int)) ∧ Ext w4 w')
        (first | with_reducible exact cells3 SX.out.1 SX.out.2.1 SX.out.2.2 (Ext.refl _).drew | with_reducible exact cells3 SX.out.1 SX.out.2.1 SX.out.2.2 x5 | fail)
        (first
          | (go_at_call 70; refine (C5.out _).mono ?_; rintro e w5 ⟨v5, rfl, o5, hx5⟩; have x5 : Ext w4 w5 := (Ext.refl w4).drew.trans hx5; obtain ⟨g5, cp5, rfl, hcell5⟩ := new_slice_cell o5 (by omega); have s0 := hcell5 _ _ AN.out.1; have s1 := hcell5 _ _ AN.out.2; clear hcell5 o5)
          | fail)
      all_goals
        have ci' := x5.cell CZ.out.1
        go_wp2_with fail
        go_still (by kernel_rfl)
        go_wp2_with fail
        all_goals (go_ret3; exact ⟨rfl, (X4.out.trans x5).drew⟩)
  · have e1 : ((na : Int) == (m : Int)) = false := by rw [beq_eq_false_iff_ne]; omega
    rw [show Op.load 36 (Operand.tmp 37) = shy (Op.load 36 (Operand.tmp 37)) from rfl]
    go_region_held3 (fun w' => w'.cell? ⟨w.heap.size, 0, none⟩ = some (.string s) ∧ w'.cell? ⟨w.heap.size + 1, 0, none⟩ = some (.int .i64 (m : Int)) ∧ w'.cell? ⟨w.heap.size + 1, 1, none⟩ = some (.int .i64 (D : Int)) ∧ Ext w4 w')
      (first | with_reducible exact cells3 SX.out.1 SX.out.2.1 SX.out.2.2 (Ext.refl _).drew | with_reducible exact cells3 SX.out.1 SX.out.2.1 SX.out.2.2 x5 | fail)
      (first
        | (go_at_call 70; refine (C5.out _).mono ?_; rintro e w5 ⟨v5, rfl, o5, hx5⟩; have x5 : Ext w4 w5 := (Ext.refl w4).drew.trans hx5; obtain ⟨g5, cp5, rfl, hcell5⟩ := new_slice_cell o5 (by omega); have s0 := hcell5 _ _ AN.out.1; have s1 := hcell5 _ _ AN.out.2; clear hcell5 o5)
        | fail)
    all_goals
      have ci' := x5.cell CZ.out.1
      go_wp2_with fail
      go_still (by kernel_rfl)
      go_wp2_with fail
      all_goals (go_ret3; exact ⟨rfl, (X4.out.trans x5).drew⟩)
set_option maxHeartbeats 3200000 in
theorem specBeside_no1 (s t : ByteArray) (n d : Int) (h : ¬ Good s t) (w : World) :
    Calls Try.prog 18 #[.agg #[.string s, .string t], .agg #[.int .i64 n, .int .i64 d]] w fun e w' => e = .returned (.tuple #[.int .i64 0, .int .i64 0, .bool false]) ∧ Ext w w' := by
  have X0 : Hid (Ext w ((w.alloc (.cells #[.string s, .string t] 25)).alloc (.cells #[.int .i64 n, .int .i64 d] 36))) := ((Ext.refl w).alloc _).alloc _
  have C1 := Lib.hid (fun W => prGood_no s t h W)
  obtain ⟨a0, a1⟩ := cells_of (((Ext.refl (w.alloc (.cells #[.string s, .string t] 25))).alloc (.cells #[.int .i64 n, .int .i64 d] 36)).at (heap_alloc_new w (.cells #[.string s, .string t] 25)))
  clear h
  go_enter Try.func18, Try.ntmps18
  go_wp2_with fail
  generalize (w.alloc (.cells #[.string s, .string t] 25)).alloc (.cells #[.int .i64 n, .int .i64 d] 36) = W at *
  refine (C1.out _).mono ?_
  rintro e w1 ⟨rfl, x1⟩
  have X1 := Lib.hid (X0.out.trans x1)
  clear x1 a0 a1
  go_wp2_with fail
  go_ret3
  exact ⟨rfl, X1.out⟩
set_option maxHeartbeats 3200000 in
theorem specBeside_no2 (A B : Tr) (hc : A.carets = B.carets) (hB : B.carets ≤ 8) (n d : Int) (h : (goodB n d && decide (1 < d)) = false) (w : World) :
    Calls Try.prog 18 #[.agg #[.string (tx A), .string (tx B)], .agg #[.int .i64 n, .int .i64 d]] w fun e w' => e = .returned (.tuple #[.int .i64 0, .int .i64 0, .bool false]) ∧ Ext w w' := by
  have C1 := Lib.hid (fun W => prGood_yes A B hc hB W)
  have C2 := Lib.hid (fun W => mpGood_calls n d W)
  have HD : goodB n d = true → d = 1 := fun hg => by
    rw [hg, Bool.true_and] at h
    obtain ⟨m, k, e1, e2, hk, hm, ho⟩ := goodB_true hg
    have := of_decide_eq_false h
    have := Nat.two_pow_pos k
    omega
  generalize tx A = s at *
  generalize tx B = t at *
  obtain ⟨X0, b0⟩ : Hid (Ext w ((w.alloc (.cells #[.string s, .string t] 25)).alloc (.cells #[.int .i64 n, .int .i64 d] 36))) ∧ ((w.alloc (.cells #[.string s, .string t] 25)).alloc (.cells #[.int .i64 n, .int .i64 d] 36)).heap[w.heap.size + 1]? = some (.cells #[.int .i64 n, .int .i64 d] 36) :=
    ⟨((Ext.refl w).alloc _).alloc _, by have := heap_alloc_new (w.alloc (.cells #[.string s, .string t] 25)) (.cells #[.int .i64 n, .int .i64 d] 36); rwa [show (w.alloc (.cells #[.string s, .string t] 25)).heap.size = w.heap.size + 1 from Array.size_push _] at this⟩
  have B1 := Lib.hid b0
  obtain ⟨a0, a1⟩ := cells_of (((Ext.refl (w.alloc (.cells #[.string s, .string t] 25))).alloc (.cells #[.int .i64 n, .int .i64 d] 36)).at (heap_alloc_new w (.cells #[.string s, .string t] 25)))
  clear b0 h hc hB
  go_enter Try.func18, Try.ntmps18
  go_wp2_with fail
  generalize (w.alloc (.cells #[.string s, .string t] 25)).alloc (.cells #[.int .i64 n, .int .i64 d] 36) = W at *
  refine (C1.out _).mono ?_
  rintro e w1 ⟨rfl, x1⟩
  have X1 := Lib.hid (X0.out.trans x1)
  have B2 := Lib.hid (x1.at B1.out)
  obtain ⟨c2, c3⟩ := cells_of B2.out
  clear x1 a0 a1
  go_wp2_with fail
  refine (C2.out _).mono ?_
  rintro e w2 ⟨rfl, x2⟩
  have X2 := Lib.hid (X1.out.trans x2)
  obtain ⟨c2, c3⟩ := cells_of (x2.at B2.out)
  clear x2
  cases hg : goodB n d with
  | false =>
    go_wp2_with fail
    go_ret3
    exact ⟨rfl, X2.out⟩
  | true =>
    have hd := HD hg
    subst hd
    go_wp2_with fail
    go_ret3
    exact ⟨rfl, X2.out⟩
end Go.Proofs.Ytijnadjgmmednaa.N
