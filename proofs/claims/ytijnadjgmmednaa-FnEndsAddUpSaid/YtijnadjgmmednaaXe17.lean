import Derived.StillTactics
import Derived.Test.YtijnadjgmmednaaXe10
/- A part of the proof: lemmas that later parts use. -/
set_option linter.unusedVariables false
set_option linter.unusedSimpArgs false
namespace Go.Proofs.Ytijnadjgmmednaa.N
open Go.RowKit
def slpL (la lb : List (List UInt8)) : List Int := List.zipWith (fun a b => (a.length : Int) - (b.length : Int)) la lb
def slp (A B : Tr) : List Int := slpL (addrs A []) (addrs B [])
theorem slpL_take (la lb : List (List UInt8)) (k : Nat) (a b : List UInt8) (h1 : la[k]? = some a) (h2 : lb[k]? = some b) : slpL (la.take (k + 1)) (lb.take (k + 1)) = slpL (la.take k) (lb.take k) ++ [(a.length : Int) - (b.length : Int)] := by
  have e1 : la.take (k + 1) = la.take k ++ [a] := by rw [List.take_add_one, h1]; rfl
  have e2 : lb.take (k + 1) = lb.take k ++ [b] := by rw [List.take_add_one, h2]; rfl
  have hk1 := (List.getElem?_eq_some_iff.1 h1).1
  have hk2 := (List.getElem?_eq_some_iff.1 h2).1
  unfold slpL
  rw [e1, e2, List.zipWith_append (by simp; omega)]
  rfl
theorem slpL_length (la lb : List (List UInt8)) (h : la.length = lb.length) : (slpL la lb).length = la.length := by unfold slpL; rw [List.length_zipWith]; omega
set_option maxHeartbeats 6400000 in
set_option maxRecDepth 100000 in
theorem slopes_calls (A B : Tr) (hc : A.carets = B.carets) (hB : B.carets ≤ 30) (pa pb : Option Addr) (w : World) (ra : Rep w A pa) (rb : Rep w B pb) :
    Calls Try.prog 58 #[.agg #[.pointer pa, .pointer pb]] w fun e w' => ∃ v, e = .returned v ∧ Own w' w.heap.size 3 v (ints (slp A B)) ∧ Ext w w' := by
  have X0 := Lib.hid ((Ext.refl w).alloc (.cells #[.pointer pa, .pointer pb] 82))
  obtain ⟨b0, b1⟩ := cells_of (heap_alloc_new w (.cells #[.pointer pa, .pointer pb] 82))
  have CP := Lib.hid (fun W (h : Ext w W) => pieces_calls A B hc hB pa pb W (ra.ext h) (rb.ext h))
  have LA := addrs_length A []
  have LB := addrs_length B []
  rw [← LA] at CP
  have DA : Hid (∀ x ∈ addrs A [], x.length ≤ 40) := fun x hx => by have := addrs_depth A [] x hx; have := A.depth_le; simp at *; omega
  have DB : Hid (∀ x ∈ addrs B [], x.length ≤ 40) := fun x hx => by have := addrs_depth B [] x hx; have := B.depth_le; simp at *; omega
  have LL : Hid ((addrs A []).length = (addrs B []).length) := by show _ = _; omega
  have L31 : (addrs A []).length ≤ 31 := by omega
  have L1 : 0 < (addrs A []).length := by omega
  unfold slp
  generalize addrs A [] = la at *
  generalize addrs B [] = lb at *
  clear hc hB ra rb LA LB
  go_enter Try.func58, Try.ntmps58
  go_wp2_with fail
  generalize w.alloc (.cells #[.pointer pa, .pointer pb] 82) = W at *
  refine (CP.out _ X0.out).mono ?_
  rintro e w1 ⟨v, rfl, hv, x1⟩
  obtain ⟨g, c, rfl, hcell⟩ := new_slice_cell hv L1
  have HV := Lib.hid hcell
  have X1 := Lib.hid (X0.out.trans x1)
  clear hv hcell x1 b0 b1
  go_wp2_with fail
  go_loopw [9, 3] (fun i o wr => ∃ k : Nat, k ≤ la.length ∧ i = .int .i64 k ∧ Hid (Own wr w1.heap.size 3 o (ints (slpL (la.take k) (lb.take k)))) ∧ Hid (Ext w1 wr)) (fun i _ _ => la.length - (intOf i).toNat)
  case atStart => exact ⟨0, Nat.zero_le _, rfl, Own.nil _ _ _, Ext.refl _⟩
  case round =>
    obtain ⟨k, hk, rfl, HO, HX⟩ := hrel
    by_cases hlt : k < la.length
    · have hlt2 : k < lb.length := by rw [← LL.out]; exact hlt
      have HA := List.getElem?_eq_getElem hlt
      have HB := List.getElem?_eq_getElem hlt2
      have LA := DA.out _ (List.getElem_mem hlt)
      have LB := DB.out _ (List.getElem_mem hlt2)
      have G := pcsV_get la lb k _ _ HA HB
      have c0 : wr.cell? ⟨g, k * 4, none⟩ = some (.int .i64 (plI la[k] la[k].length : Nat)) := HX.out.cell (HV.out _ _ (G 0 _ rfl))
      have c1 : wr.cell? ⟨g, k * 4 + 1, none⟩ = some (.int .i64 (plI lb[k] lb[k].length : Nat)) := HX.out.cell (HV.out _ _ (G 1 _ rfl))
      have c2 : wr.cell? ⟨g, k * 4 + 2, none⟩ = some (.int .i64 (la[k].length : Nat)) := HX.out.cell (HV.out _ _ (G 2 _ rfl))
      have c3 : wr.cell? ⟨g, k * 4 + 3, none⟩ = some (.int .i64 (lb[k].length : Nat)) := HX.out.cell (HV.out _ _ (G 3 _ rfl))
      have ST := Lib.hid (slpL_take la lb k _ _ HA HB)
      have SL : Hid ((slpL (la.take k) (lb.take k)).length = k) := by show _ = _; rw [slpL_length _ _ (by simp; have := LL.out; omega), List.length_take]; omega
      have CS := Lib.hid (fun W => slope_calls (plI la[k] la[k].length : Nat) (plI lb[k] lb[k].length : Nat) la[k].length lb[k].length (by omega) (by omega) W)
      have g0 : (0 : Int) ≤ k := by omega
      have g1 : (k : Int) < la.length := by omega
      clear G HA HB
      generalize plI la[k] la[k].length = na at *
      generalize plI lb[k] lb[k].length = nb at *
      generalize la[k].length = l1 at *
      generalize lb[k].length = l2 at *
      generalize slpL (la.take k) (lb.take k) = P at *
      have NW : Hid (Ext wr (wr.alloc (.cells #[.int .i64 (na : Nat), .int .i64 (nb : Nat), .int .i64 (l1 : Nat), .int .i64 (l2 : Nat)] 97))) := (Ext.refl wr).alloc _
      obtain ⟨⟨d0, d1, d2, d3⟩, _⟩ := facts4 (heap_alloc_new wr (.cells #[.int .i64 (na : Nat), .int .i64 (nb : Nat), .int .i64 (l1 : Nat), .int .i64 (l2 : Nat)] 97))
      go_wp2_with fail
      generalize wr.alloc (.cells #[.int .i64 (na : Nat), .int .i64 (nb : Nat), .int .i64 (l1 : Nat), .int .i64 (l2 : Nat)] 97) = W1 at *
      refine (CS.out _).mono ?_
      rintro e w2 ⟨rfl, x2⟩
      have X2 := Lib.hid (HX.out.trans (NW.out.trans x2))
      have O2 := (HO.out.ext (NW.out.trans x2)).ext ((Ext.refl w2).alloc (.cells #[.int .i64 ((l1 : Int) - l2)] 3))
      have RL : Hid (Reads (w2.alloc (.cells #[.int .i64 ((l1 : Int) - l2)] 3)) (.slice (some ⟨w2.heap.size, 0, none⟩) 1 1) (ints [(l1 : Int) - l2])) := (Own.lit w2 0 3 #[.int .i64 ((l1 : Int) - l2)] (Nat.zero_le _) (by show 1 ≤ maxLen; decide)).reads
      have LT : Hid (((ints P).length + (ints [(l1 : Int) - l2]).length) * 8 ≤ 140737488355328) := by show _ ≤ _; rw [ints_length, ints_length, SL.out]; simp only [List.length_singleton]; omega
      have B1 := Lib.hid (X2.out.alloc (.cells #[.int .i64 ((l1 : Int) - l2)] 3)).size
      clear x2 d0 d1 d2 d3 c0 c1 c2 c3
      go_wp2_with (at_builtin; refine wpList_app rfl (.tmp 13) (.tmp 16) 89 rfl w1.heap.size 3 (.int .i64 0) 8 Try.underlying89 infoInt rfl (by omega) _ _ _ (ints [(l1 : Int) - l2]) rfl rfl O2 RL.out (ints_one _) LT.out B1.out ?_; intro v4 w4 o4 g4 _)
      have X4 := Lib.hid ((X2.out.alloc (.cells #[.int .i64 ((l1 : Int) - l2)] 3)).grown g4 O2.lo)
      have O4 : Hid (Own w4 w1.heap.size 3 v4 (ints (P ++ [(l1 : Int) - l2]))) := by
        have : ints (P ++ [(l1 : Int) - l2]) = ints P ++ ints [(l1 : Int) - l2] := by simp [ints]
        show Own _ _ _ _ _
        rw [this]; exact o4
      clear o4 g4 O2
      go_wp2_with fail
      exact ⟨⟨k + 1, by omega, by go_num, by rw [ST.out]; exact O4.out, X4.out⟩, by simp [intOf]; omega⟩
    · obtain rfl : k = la.length := by omega
      have g1 : ¬ ((la.length : Nat) : Int) < la.length := by omega
      have EQ : Hid (slpL (la.take la.length) (lb.take la.length) = slpL la lb) := by show _ = _; rw [List.take_length, LL.out, List.take_length]
      go_wp2_with fail
      go_ret
      exact ⟨_, rfl, by rw [← EQ.out]; exact HO.out.mono X1.out.size, X1.out.trans HX.out⟩
theorem slp_length (A B : Tr) (hc : A.carets = B.carets) : (slp A B).length = A.carets + 1 := by unfold slp; rw [slpL_length _ _ (by rw [addrs_length, addrs_length]; omega), addrs_length]
set_option maxHeartbeats 6400000 in
set_option maxRecDepth 100000 in
theorem EndSlopes_yes (A B : Tr) (hc : A.carets = B.carets) (hB : B.carets ≤ 8) (w : World) :
    Calls Try.prog 11 #[.agg #[.string (tx A), .string (tx B)]] w fun e w' => e = .returned (.tuple #[.int .i64 ((slp A B).getD 0 0), .int .i64 ((slp A B).getD A.carets 0), .bool true]) ∧ Ext w w' := by
  have X0 := Lib.hid ((Ext.refl w).alloc (.cells #[.string (tx A), .string (tx B)] 25))
  obtain ⟨b0, b1⟩ := cells_of (heap_alloc_new w (.cells #[.string (tx A), .string (tx B)] 25))
  have C1 := Lib.hid (pairOf_yes A B hc hB)
  have C2 := Lib.hid (fun pa pb W ra rb => slopes_calls A B hc (by omega) pa pb W ra rb)
  have SL := slp_length A B hc
  generalize slp A B = xs at *
  obtain ⟨m, hm⟩ : ∃ m, xs.length = m + 1 := ⟨xs.length - 1, by omega⟩
  have LN : A.carets = m := by omega
  have m8 : m ≤ 8 := by omega
  rw [LN]
  obtain ⟨u, hu⟩ : ∃ u, xs.getD 0 0 = u := ⟨_, rfl⟩
  obtain ⟨z, hz⟩ : ∃ z, xs.getD m 0 = z := ⟨_, rfl⟩
  rw [hu, hz]
  have HU := Lib.hid (And.intro hm (And.intro hu hz))
  clear hc hB SL LN hm hu hz
  go_enter Try.func11, Try.ntmps11
  go_wp2_with fail
  generalize w.alloc (.cells #[.string (tx A), .string (tx B)] 25) = W at *
  refine (C1.out _).mono ?_
  rintro e w1 ⟨pa, pb, rfl, rA, rB, x1⟩
  have xx := (Ext.refl w1).alloc (.cells #[.pointer pa, .pointer pb] 82)
  have X1 := Lib.hid (x1.trans xx)
  have RA := Lib.hid (rA.ext xx)
  have RB := Lib.hid (rB.ext xx)
  obtain ⟨k0, k1⟩ := cells_of (heap_alloc_new w1 (.cells #[.pointer pa, .pointer pb] 82))
  clear rA rB xx x1 b0 b1
  go_wp2_with fail
  generalize w1.alloc (.cells #[.pointer pa, .pointer pb] 82) = W1 at *
  refine (C2.out pa pb _ RA.out RB.out).mono ?_
  rintro e w2 ⟨v, rfl, ov, x2⟩
  obtain ⟨Av, cv, rfl, _, rd⟩ := ov.reads
  obtain ⟨hm, hu, hz⟩ := HU.out
  rw [ints_length, hm] at rd ⊢
  obtain ⟨ad, rfl, ca⟩ := rd (by omega)
  have X2 := Lib.hid (X1.out.trans x2)
  have G : ∀ j, j < xs.length → w2.cell? (ad.add j) = some (.int .i64 (xs.getD j 0)) := fun j hj => ca j _ (by rw [ints, List.getElem?_map, List.getElem?_eq_getElem hj, List.getD_eq_getElem?_getD, List.getElem?_eq_getElem hj]; rfl)
  have c0 : w2.cell? ad = some (.int .i64 u) := by have := G 0 (by omega); rwa [show ad.add 0 = ad by simp [Addr.add], hu] at this
  have c1 : w2.cell? (ad.add m) = some (.int .i64 z) := by have := G m (by omega); rwa [hz] at this
  clear x2 ov ca rd G hm hu hz
  go_wp2_with fail
  have hw : IntKind.i64.wrap (m : Int) = (m : Int) := by simp [IntKind.wrap, IntKind.bits, IntKind.signed]; omega
  have hm0 : (0 : Int) ≤ m := by omega
  have hm1 : (m : Int) < m + 1 := by omega
  have hcd : (0 ≤ (m : Int) ∧ (m : Int) < m + 1) = True := eq_true ⟨hm0, hm1⟩
  go_still (by kernel_rfl)
  go_wp2_with fail
  go_ret3
  exact ⟨rfl, X0.out.trans X2.out.drew⟩
theorem EndSlopes_no (s t : ByteArray) (h : ¬ Good s t) (w : World) :
    Calls Try.prog 11 #[.agg #[.string s, .string t]] w fun e w' => e = .returned (.tuple #[.int .i64 0, .int .i64 0, .bool false]) ∧ Ext w w' := by
  have X0 := Lib.hid ((Ext.refl w).alloc (.cells #[.string s, .string t] 25))
  obtain ⟨b0, b1⟩ := cells_of (heap_alloc_new w (.cells #[.string s, .string t] 25))
  have C1 := Lib.hid (fun W => pairOf_no s t h W)
  clear h
  go_enter Try.func11, Try.ntmps11
  go_wp2_with fail
  generalize w.alloc (.cells #[.string s, .string t] 25) = W at *
  refine (C1.out _).mono ?_
  rintro e w1 ⟨pa, pb, rfl, x1⟩
  have X1 := Lib.hid (x1.alloc (.cells #[.pointer pa, .pointer pb] 82))
  clear x1 b0 b1
  go_wp2_with fail
  go_ret3
  exact ⟨rfl, X0.out.trans X1.out⟩
end Go.Proofs.Ytijnadjgmmednaa.N
namespace Go.Proofs.Ytijnadjgmmednaa.N
open Go.RowKit
theorem isBetween_calls (n d : Int) (w : World) : Calls Try.prog 63 #[.agg #[.int .i64 n, .int .i64 d]] w fun e w' => e = .returned (.bool (goodB n d && decide (1 < d))) ∧ Ext w w' := by
  have X0 := Lib.hid ((Ext.refl w).alloc (.cells #[.int .i64 n, .int .i64 d] 36))
  have B0 := heap_alloc_new w (.cells #[.int .i64 n, .int .i64 d] 36)
  obtain ⟨c0, c1⟩ := cells_of B0
  have C1 := Lib.hid (fun W => isFraction_calls n d W)
  have B0 := Lib.hid B0
  generalize goodB n d = g at *
  go_enter Try.func63, Try.ntmps63
  go_wp2_with fail
  generalize w.alloc (.cells #[.int .i64 n, .int .i64 d] 36) = W at *
  refine (C1.out _).mono ?_
  rintro e w1 ⟨rfl, x1⟩
  obtain ⟨c0, c1⟩ := cells_of (x1.at B0.out)
  have X1 := Lib.hid (X0.out.trans x1)
  clear x1
  cases g with
  | false =>
    go_wp2_with fail
    go_ret
    exact ⟨rfl, X1.out⟩
  | true =>
    go_wp2_with fail
    go_ret
    exact ⟨by rw [Bool.true_and]; rfl, X1.out⟩
def slAt (A B : Tr) (p : Nat) : Int := (slp A B).getD (pcAt (addrs A []) p) 0
theorem pair_facts {w1 w2 : World} {a : Nat} {x y : Value} (h0 : w1.cell? ⟨a, 0, none⟩ = some x) (h1 : w1.cell? ⟨a, 1, none⟩ = some y) (h : Ext w1 w2) : w2.cell? ⟨a, 0, none⟩ = some x ∧ w2.cell? ⟨a, 1, none⟩ = some y ∧ Ext w1 w2 := ⟨h.cell h0, h.cell h1, h⟩
set_option maxHeartbeats 6400000 in
set_option maxRecDepth 100000 in
theorem SlopesBeside_yes (A B : Tr) (hc : A.carets = B.carets) (hB : B.carets ≤ 8) (m k : Nat) (hk : k ≤ 10) (hk1 : 1 ≤ k) (hm : m ≤ 2 ^ k) (hm1 : 1 ≤ m) (h : goodB m ((2 ^ k : Nat) : Int) = true) (w : World) :
    Calls Try.prog 17 #[.agg #[.string (tx A), .string (tx B)], .agg #[.int .i64 m, .int .i64 ((2 ^ k : Nat) : Int)]] w fun e w' => e = .returned (.tuple #[.int .i64 (slAt A B (m * part k - 1)), .int .i64 (slAt A B (m * part k)), .bool true]) ∧ Ext w w' := by
  have hle : m * part k ≤ 1099511627776 := by rw [← part_mul (show k ≤ 40 by omega)]; exact Nat.mul_le_mul_right _ hm
  have hp1 : 1 ≤ m * part k := Nat.mul_pos hm1 (by unfold part; exact Nat.two_pow_pos _)
  have C1 := Lib.hid (fun W => pairOf_yes A B hc hB W)
  have C2 := Lib.hid (fun W => isBetween_calls m ((2 ^ k : Nat) : Int) W)
  have hd : decide ((1 : Int) < ((2 ^ k : Nat) : Int)) = true := decide_eq_true (by have := Nat.pow_le_pow_right (show 0 < 2 by omega) hk1; omega)
  rw [h, hd, Bool.and_true] at C2
  have C3 := Lib.hid (fun W => place_calls m (2 ^ k) (part k) (part_mul (by omega)) hm (Nat.two_pow_pos k) W)
  have CP := Lib.hid (fun pa pb W ra rb => pieces_calls A B hc (by omega) pa pb W ra rb)
  have LA := addrs_length A []
  have LB := addrs_length B []
  rw [← LA] at CP
  have DA : ∀ x ∈ addrs A [], x.length ≤ 40 := fun x hx => by have := addrs_depth A [] x hx; have := A.depth_le; simp at *; omega
  have DB : ∀ x ∈ addrs B [], x.length ≤ 40 := fun x hx => by have := addrs_depth B [] x hx; have := B.depth_le; simp at *; omega
  have CA : ∀ (p : Nat) (hp : p ≤ 1099511627776), ∃ (a b : List UInt8) (na nb : Nat), (slAt A B p = (a.length : Int) - b.length) ∧ a.length ≤ 40 ∧ b.length ≤ 40 ∧ ∀ (base : Nat) (v : Value) (W : World) (hv : W.ownsRow base 97 4 v (addrs A []).length (pcsV (addrs A []) (addrs B []))),
      Calls Try.prog 65 #[v, .int .i64 p] W fun e w' => e = .returned (.agg #[.int .i64 na, .int .i64 nb, .int .i64 (a.length : Nat), .int .i64 (b.length : Nat)]) ∧ Ext W w' := by
    intro p hp
    have hi : pcAt (addrs A []) p < (addrs A []).length := by
      unfold pcAt
      cases hf : (addrs A []).findIdx? fun a => decide (p < plI a a.length + part a.length) with
      | none => simp; omega
      | some i => simp; exact (List.findIdx?_eq_some_iff_getElem.1 hf).1
    obtain ⟨a, ha⟩ : ∃ a, (addrs A [])[pcAt (addrs A []) p]? = some a := ⟨_, List.getElem?_eq_getElem hi⟩
    obtain ⟨b, hb⟩ : ∃ b, (addrs B [])[pcAt (addrs A []) p]? = some b := ⟨_, List.getElem?_eq_getElem (by omega)⟩
    refine ⟨a, b, plI a a.length, plI b b.length, ?_, DA a (List.mem_of_getElem? ha), DB b (List.mem_of_getElem? hb), fun base v W hv => (pieceAt_calls (addrs A []) (addrs B []) (by omega) (by omega) (by omega) DA p base hp v W hv).mono ?_⟩
    · unfold slAt slp slpL
      rw [List.getD_eq_getElem?_getD, List.getElem?_zipWith, ha, hb]; rfl
    · rintro e w' ⟨a', b', ha', hb', rfl, x⟩
      rw [ha] at ha'; rw [hb] at hb'
      cases ha'; cases hb'
      exact ⟨rfl, x⟩
  obtain ⟨a1, b1, na1, nb1, s1, l1a, l1b, P1⟩ := CA (m * part k - 1) (by omega)
  obtain ⟨a2, b2, na2, nb2, s2, l2a, l2b, P2⟩ := CA (m * part k) hle
  rw [s1, s2]
  have Q1 := Lib.hid (fun W => slope_calls (na1 : Nat) (nb1 : Nat) a1.length b1.length (by omega) (by omega) W)
  have Q2 := Lib.hid (fun W => slope_calls (na2 : Nat) (nb2 : Nat) a2.length b2.length (by omega) (by omega) W)
  rw [show (((m * part k - 1 : Nat)) : Int) = ((m * part k : Nat) : Int) - 1 by omega] at P1
  have hw : IntKind.i64.wrap (((m * part k : Nat) : Int) - 1) = ((m * part k : Nat) : Int) - 1 := by simp only [IntKind.wrap, IntKind.bits, IntKind.signed]; simp; omega
  rw [← hw] at P1
  clear hw
  replace P1 := Lib.hid P1
  replace P2 := Lib.hid P2
  have HP : Hid (-9223372036854775808 ≤ ((m * part k : Nat) : Int) - 1 ∧ ((m * part k : Nat) : Int) - 1 ≤ 9223372036854775807) := by show _ ∧ _; omega
  have HP1 : (1 : Int) ≤ ((m * part k : Nat) : Int) := by omega
  have HP2 : ((m * part k : Nat) : Int) ≤ 1099511627776 := by omega
  generalize ((m * part k : Nat) : Int) = pl at *
  generalize a1.length = la1 at *
  generalize b1.length = lb1 at *
  generalize a2.length = la2 at *
  generalize b2.length = lb2 at *
  generalize addrs A [] = la at *
  generalize addrs B [] = lb at *
  generalize 2 ^ k = D at *
  generalize tx A = s at *
  generalize tx B = t at *
  clear hd hle hp1 h hc hB hk hm hk1 hm1 LA LB DA DB CA s1 s2 l1a l1b l2a l2b
  obtain ⟨X0, b0⟩ : Hid (Ext w ((w.alloc (.cells #[.string s, .string t] 25)).alloc (.cells #[.int .i64 (m : Int), .int .i64 (D : Int)] 36))) ∧ ((w.alloc (.cells #[.string s, .string t] 25)).alloc (.cells #[.int .i64 (m : Int), .int .i64 (D : Int)] 36)).heap[w.heap.size + 1]? = some (.cells #[.int .i64 (m : Int), .int .i64 (D : Int)] 36) :=
    ⟨((Ext.refl w).alloc _).alloc _, by have := heap_alloc_new (w.alloc (.cells #[.string s, .string t] 25)) (.cells #[.int .i64 (m : Int), .int .i64 (D : Int)] 36); rwa [show (w.alloc (.cells #[.string s, .string t] 25)).heap.size = w.heap.size + 1 from Array.size_push _] at this⟩
  have B1 := Lib.hid b0
  obtain ⟨a0, a1⟩ := cells_of (((Ext.refl (w.alloc (.cells #[.string s, .string t] 25))).alloc (.cells #[.int .i64 (m : Int), .int .i64 (D : Int)] 36)).at (heap_alloc_new w (.cells #[.string s, .string t] 25)))
  clear b0
  go_enter Try.func17, Try.ntmps17
  go_wp2_with fail
  generalize (w.alloc (.cells #[.string s, .string t] 25)).alloc (.cells #[.int .i64 (m : Int), .int .i64 (D : Int)] 36) = W at *
  refine (C1.out _).mono ?_
  rintro e w1 ⟨pa, pb, rfl, rA, rB, x1⟩
  have xx := (Ext.refl w1).alloc (.cells #[.pointer pa, .pointer pb] 82)
  have X1 := Lib.hid (X0.out.trans (x1.trans xx))
  have RA := Lib.hid (rA.ext xx)
  have RB := Lib.hid (rB.ext xx)
  have B2 := Lib.hid ((x1.trans xx).at B1.out)
  obtain ⟨c2, c3⟩ := cells_of B2.out
  have B6 := Lib.hid (heap_alloc_new w1 (.cells #[.pointer pa, .pointer pb] 82))
  clear rA rB xx x1 a0 a1
  go_wp2_with fail
  generalize w1.alloc (.cells #[.pointer pa, .pointer pb] 82) = W1 at *
  refine (C2.out _).mono ?_
  rintro e w2 ⟨rfl, x2⟩
  have X2 := Lib.hid (X1.out.trans x2)
  have RA := Lib.hid (RA.out.ext x2)
  have RB := Lib.hid (RB.out.ext x2)
  have B3 := Lib.hid (x2.at B2.out)
  obtain ⟨c4, c5⟩ := cells_of (x2.at B6.out)
  clear c2 c3 x2
  go_wp2_with fail
  refine (CP.out pa pb _ RA.out RB.out).mono ?_
  rintro e w3 ⟨v, rfl, hv, x3⟩
  have X3 := Lib.hid (X2.out.trans x3)
  obtain ⟨d0, d1⟩ := cells_of (x3.at B3.out)
  have SX := Lib.hid (And.intro d0 (And.intro d1 (Ext.refl w3)))
  have HV := Lib.hid hv
  clear c4 c5 x3 hv
  go_wp2_with fail
  go_region_held3 (fun w' => w'.cell? ⟨w.heap.size + 1, 0, none⟩ = some (.int .i64 (m : Int)) ∧ w'.cell? ⟨w.heap.size + 1, 1, none⟩ = some (.int .i64 (D : Int)) ∧ Ext w3 w')
    (first | with_reducible exact pair_facts SX.out.1 SX.out.2.1 (Ext.refl _).drew | with_reducible exact pair_facts SX.out.1 SX.out.2.1 x9 | with_reducible exact pair_facts SX.out.1 SX.out.2.1 x8 | with_reducible exact pair_facts SX.out.1 SX.out.2.1 x7 | with_reducible exact pair_facts SX.out.1 SX.out.2.1 x6 | with_reducible exact pair_facts SX.out.1 SX.out.2.1 x5 | with_reducible exact pair_facts SX.out.1 SX.out.2.1 x4 | fail)
    (first
      | (go_at_call 66; refine (C3.out _).mono ?_; rintro e w4 ⟨rfl, hx4⟩; with_reducible have x4 : Ext w3 w4 := (Ext.refl w3).drew.trans hx4)
      | (go_at_call 65; with_reducible refine (P1.out _ _ _ (row_ext HV.out x4)).mono ?_; rintro e w5 ⟨rfl, hx5⟩; have x5 : Ext w3 w5 := x4.trans hx5)
      | (go_at_call 67; with_reducible refine (Q1.out _).mono ?_; rintro e w6 ⟨rfl, hx6⟩; with_reducible have x6 : Ext w3 w6 := x5.trans hx6)
      | (go_at_call 66; refine (C3.out _).mono ?_; rintro e w7 ⟨rfl, hx7⟩; with_reducible have x7 : Ext w3 w7 := x6.trans hx7)
      | (go_at_call 65; with_reducible refine (P2.out _ _ _ (row_ext HV.out x7)).mono ?_; rintro e w8 ⟨rfl, hx8⟩; have x8 : Ext w3 w8 := x7.trans hx8)
      | (go_at_call 67; with_reducible refine (Q2.out _).mono ?_; rintro e w9 ⟨rfl, hx9⟩; with_reducible have x9 : Ext w3 w9 := x8.trans hx9)
      | fail)
  go_wp2_with fail
  go_ret3
  exact ⟨rfl, X3.out.trans x9⟩
set_option maxHeartbeats 3200000 in
theorem SlopesBeside_no1 (s t : ByteArray) (n d : Int) (h : ¬ Good s t) (w : World) :
    Calls Try.prog 17 #[.agg #[.string s, .string t], .agg #[.int .i64 n, .int .i64 d]] w fun e w' => e = .returned (.tuple #[.int .i64 0, .int .i64 0, .bool false]) ∧ Ext w w' := by
  have X0 : Hid (Ext w ((w.alloc (.cells #[.string s, .string t] 25)).alloc (.cells #[.int .i64 n, .int .i64 d] 36))) := ((Ext.refl w).alloc _).alloc _
  have C1 := Lib.hid (fun W => pairOf_no s t h W)
  obtain ⟨a0, a1⟩ := cells_of (((Ext.refl (w.alloc (.cells #[.string s, .string t] 25))).alloc (.cells #[.int .i64 n, .int .i64 d] 36)).at (heap_alloc_new w (.cells #[.string s, .string t] 25)))
  clear h
  go_enter Try.func17, Try.ntmps17
  go_wp2_with fail
  generalize (w.alloc (.cells #[.string s, .string t] 25)).alloc (.cells #[.int .i64 n, .int .i64 d] 36) = W at *
  refine (C1.out _).mono ?_
  rintro e w1 ⟨pa, pb, rfl, x1⟩
  have X1 := Lib.hid (X0.out.trans (x1.alloc (.cells #[.pointer pa, .pointer pb] 82)))
  clear x1 a0 a1
  go_wp2_with fail
  go_ret3
  exact ⟨rfl, X1.out⟩
set_option maxHeartbeats 3200000 in
theorem SlopesBeside_no2 (A B : Tr) (hc : A.carets = B.carets) (hB : B.carets ≤ 8) (n d : Int) (h : (goodB n d && decide (1 < d)) = false) (w : World) :
    Calls Try.prog 17 #[.agg #[.string (tx A), .string (tx B)], .agg #[.int .i64 n, .int .i64 d]] w fun e w' => e = .returned (.tuple #[.int .i64 0, .int .i64 0, .bool false]) ∧ Ext w w' := by
  have C1 := Lib.hid (fun W => pairOf_yes A B hc hB W)
  have C2 := Lib.hid (fun W => isBetween_calls n d W)
  rw [h] at C2
  generalize tx A = s at *
  generalize tx B = t at *
  obtain ⟨X0, b0⟩ : Hid (Ext w ((w.alloc (.cells #[.string s, .string t] 25)).alloc (.cells #[.int .i64 n, .int .i64 d] 36))) ∧ ((w.alloc (.cells #[.string s, .string t] 25)).alloc (.cells #[.int .i64 n, .int .i64 d] 36)).heap[w.heap.size + 1]? = some (.cells #[.int .i64 n, .int .i64 d] 36) :=
    ⟨((Ext.refl w).alloc _).alloc _, by have := heap_alloc_new (w.alloc (.cells #[.string s, .string t] 25)) (.cells #[.int .i64 n, .int .i64 d] 36); rwa [show (w.alloc (.cells #[.string s, .string t] 25)).heap.size = w.heap.size + 1 from Array.size_push _] at this⟩
  have B1 := Lib.hid b0
  obtain ⟨a0, a1⟩ := cells_of (((Ext.refl (w.alloc (.cells #[.string s, .string t] 25))).alloc (.cells #[.int .i64 n, .int .i64 d] 36)).at (heap_alloc_new w (.cells #[.string s, .string t] 25)))
  clear b0 h hc hB
  go_enter Try.func17, Try.ntmps17
  go_wp2_with fail
  generalize (w.alloc (.cells #[.string s, .string t] 25)).alloc (.cells #[.int .i64 n, .int .i64 d] 36) = W at *
  refine (C1.out _).mono ?_
  rintro e w1 ⟨pa, pb, rfl, rA, rB, x1⟩
  have xx := (Ext.refl w1).alloc (.cells #[.pointer pa, .pointer pb] 82)
  have X1 := Lib.hid (X0.out.trans (x1.trans xx))
  obtain ⟨c2, c3⟩ := cells_of ((x1.trans xx).at B1.out)
  clear x1 a0 a1 xx rA rB
  go_wp2_with fail
  generalize w1.alloc (.cells #[.pointer pa, .pointer pb] 82) = W1 at *
  refine (C2.out _).mono ?_
  rintro e w2 ⟨rfl, x2⟩
  have X2 := Lib.hid (X1.out.trans x2)
  clear c2 c3 x2
  go_wp2_with fail
  go_ret3
  exact ⟨rfl, X2.out⟩
end Go.Proofs.Ytijnadjgmmednaa.N
