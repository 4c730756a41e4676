import Derived.StillTactics
import Derived.Test.YtgnepbogadfinaaDoorXf18
/- A part of the proof: lemmas that later parts use. -/
set_option linter.unusedVariables false
set_option linter.unusedSimpArgs false
namespace Go.Proofs.YtgnepbogadfinaaDoor.N
open Go.RowKit
theorem facts24 {w1 w2 : World} {a b : Nat} {x y n1 n2 n3 n4 : Value} (h0 : w1.cell? ⟨a, 0, none⟩ = some x) (h1 : w1.cell? ⟨a, 1, none⟩ = some y) (h2 : w1.cell? ⟨b, 0, none⟩ = some n1) (h3 : w1.cell? ⟨b, 1, none⟩ = some n2) (h4 : w1.cell? ⟨b, 2, none⟩ = some n3) (h5 : w1.cell? ⟨b, 3, none⟩ = some n4) (h : Ext w1 w2) :
    w2.cell? ⟨a, 0, none⟩ = some x ∧ w2.cell? ⟨a, 1, none⟩ = some y ∧ w2.cell? ⟨b, 0, none⟩ = some n1 ∧ w2.cell? ⟨b, 1, none⟩ = some n2 ∧ w2.cell? ⟨b, 2, none⟩ = some n3 ∧ w2.cell? ⟨b, 3, none⟩ = some n4 ∧ Ext w1 w2 :=
  ⟨h.cell h0, h.cell h1, h.cell h2, h.cell h3, h.cell h4, h.cell h5, h⟩
set_option maxHeartbeats 6400000 in
set_option maxRecDepth 100000 in
theorem LeafOf_yes (T : Tr) (hT : T.carets ≤ 8) (m D g : Nat) (h : D * g = 1099511627776) (hm : m ≤ D) (hD : 0 < D) (hg : goodB (m : Int) (D : Int) = true) (w : World) :
    Calls Tryd.prog 26 #[.string (tx T), .agg #[.int .i64 m, .int .i64 D]] w fun e w' => e = .returned (.tuple #[.int .i64 (fi (m * g) (addrs T []) : Nat), .bool true]) ∧ Ext w w' := by
  have X0 := Lib.hid ((Ext.refl w).alloc (.cells #[.int .i64 m, .int .i64 D] 31))
  have B0 := heap_alloc_new w (.cells #[.int .i64 m, .int .i64 D] 31)
  obtain ⟨b0, b1⟩ := cells_of B0
  have B0 := Lib.hid B0
  have C1 := Lib.hid (fun W => parse_yes T W hT)
  have C2 := Lib.hid (fun W => isFraction_calls m D W)
  rw [hg] at C2
  have C3 := Lib.hid (fun W => place_calls m D g h hm hD W)
  have CP := Lib.hid (fun pa W ra => pieces_calls T T rfl (by omega) pa pa W ra ra)
  have LA := addrs_length T []
  have hd : ∀ x ∈ addrs T [], x.length ≤ 40 := fun x hx => by have := addrs_depth T [] x hx; have := T.depth_le; simp at *; omega
  have hp : m * g ≤ 1099511627776 := by rw [← h]; exact Nat.mul_le_mul_right _ hm
  rw [← pcAt_fi]
  have h1 : 0 < (addrs T []).length := by omega
  have h9 : (addrs T []).length ≤ 9 := by omega
  rw [← LA] at CP
  generalize addrs T [] = la at *
  generalize (m * g : Nat) = p at *
  clear hg LA h hm hD
  go_enter Tryd.func26, Tryd.ntmps26
  go_wp2_with fail
  generalize w.alloc (.cells #[.int .i64 m, .int .i64 D] 31) = W at *
  refine (C1.out _).mono ?_
  rintro e w1 ⟨pa, rfl, rA, x1⟩
  have X1 := Lib.hid (X0.out.trans x1)
  have B1 := Lib.hid (x1.at B0.out)
  have RA := Lib.hid rA
  obtain ⟨c0, c1⟩ := cells_of B1.out
  clear b0 b1 x1 rA
  go_wp2_with fail
  refine (C2.out _).mono ?_
  rintro e w2 ⟨rfl, x2⟩
  have X2 := Lib.hid (X1.out.trans x2)
  have B2 := Lib.hid (x2.at B1.out)
  have RA := Lib.hid (RA.out.ext x2)
  clear c0 c1 x2
  go_wp2_with fail
  refine (CP.out pa _ RA.out).mono ?_
  rintro e w3 ⟨v, rfl, hv, x3⟩
  have X3 := Lib.hid (X2.out.trans x3)
  have B3 := Lib.hid (x3.at B2.out)
  obtain ⟨gg, c, rfl, hcell⟩ := new_slice_cell hv h1
  have HV := Lib.hid hcell
  clear x3 hv hcell
  go_wp2_with fail
  go_loopw [29] (fun i wr => ∃ k : Nat, k ≤ la.length ∧ i = .int .i64 k ∧ Hid (∀ j a, j < k → la[j]? = some a → plI a a.length + part a.length ≤ p) ∧ Hid (Ext w3 wr)) (fun i _ => la.length - (intOf i).toNat)
  case atStart => exact ⟨0, Nat.zero_le _, rfl, (fun j a h => absurd h (Nat.not_lt_zero _)), Ext.refl _⟩
  case round =>
    obtain ⟨k, hk, rfl, HP, HX⟩ := hrel
    by_cases hlt : k < la.length
    · have HA := List.getElem?_eq_getElem hlt
      have LA := hd _ (List.getElem_mem hlt)
      have PL := plI_le la[k] la[k].length LA
      have G := pcsV_get la la k _ _ HA HA
      have xx := HX.out
      have c0 : wr.cell? ⟨gg, k * 4, none⟩ = some (.int .i64 (plI la[k] la[k].length : Nat)) := xx.cell (HV.out _ _ (G 0 _ rfl))
      have c1 : wr.cell? ⟨gg, k * 4 + 1, none⟩ = some (.int .i64 (plI la[k] la[k].length : Nat)) := xx.cell (HV.out _ _ (G 1 _ rfl))
      have c2 : wr.cell? ⟨gg, k * 4 + 2, none⟩ = some (.int .i64 (la[k].length : Nat)) := xx.cell (HV.out _ _ (G 2 _ rfl))
      have c3 : wr.cell? ⟨gg, k * 4 + 3, none⟩ = some (.int .i64 (la[k].length : Nat)) := xx.cell (HV.out _ _ (G 3 _ rfl))
      have HA := Lib.hid HA
      have PM := part_mul LA
      have CE := Lib.hid (fun W => end_calls (plI la[k] la[k].length : Nat) (plI la[k] la[k].length : Nat) la[k].length la[k].length (part la[k].length) LA PM (by omega) W)
      have g0 : (0 : Int) ≤ k := by omega
      have g1 : (k : Int) < la.length := by omega
      have NB := heap_alloc_new wr (.cells #[.int .i64 (plI la[k] la[k].length : Nat), .int .i64 (plI la[k] la[k].length : Nat), .int .i64 (la[k].length : Nat), .int .i64 (la[k].length : Nat)] 97)
      have NW : Ext wr (wr.alloc (.cells #[.int .i64 (plI la[k] la[k].length : Nat), .int .i64 (plI la[k] la[k].length : Nat), .int .i64 (la[k].length : Nat), .int .i64 (la[k].length : Nat)] 97)) := (Ext.refl wr).alloc _
      have PK : Hid (p < plI la[k] la[k].length + part la[k].length → pcAt la p = k) := fun h => by
        unfold pcAt
        rw [List.findIdx?_eq_some_iff_getElem.2 ⟨hlt, by simpa using h, fun j hj => by
          have := HP.out j la[j] hj (List.getElem?_eq_getElem _)
          simp; omega⟩]; rfl
      have PNX : Hid (¬ p < plI la[k] la[k].length + part la[k].length → ∀ j a, j < k + 1 → la[j]? = some a → plI a a.length + part a.length ≤ p) := fun h j a hj ha => by
        rcases Nat.lt_or_eq_of_le (Nat.lt_succ_iff.1 hj) with hj | rfl
        · exact HP.out j a hj ha
        · rw [HA.out] at ha; injection ha with ha; subst ha; omega
      have XA := Lib.hid (HX.out.trans NW)
      have B4 := Lib.hid ((HX.out.trans NW).at B3.out)
      obtain ⟨⟨n0, n1, n2, n3⟩, _⟩ := facts4 NB
      obtain ⟨m0, m1⟩ := cells_of B4.out
      have SX := Lib.hid (facts24 m0 m1 n0 n1 n2 n3 (Ext.refl _))
      clear G PM xx n0 n1 n2 n3 NB NW m0 m1
      generalize plI la[k] la[k].length = na at *
      generalize part la[k].length = pk at *
      generalize hla : la[k].length = l1 at *
      clear hla HA
      go_wp2_with fail
      generalize wr.alloc (.cells #[.int .i64 (na : Nat), .int .i64 (na : Nat), .int .i64 (l1 : Nat), .int .i64 (l1 : Nat)] 97) = W1 at *
      clear c0 c1 c2 c3
      go_region_held3 (fun w' => w'.cell? ⟨w.heap.size, 0, none⟩ = some (.int .i64 (m : Int)) ∧ w'.cell? ⟨w.heap.size, 1, none⟩ = some (.int .i64 (D : Int)) ∧ w'.cell? ⟨wr.heap.size, 0, none⟩ = some (.int .i64 (na : Nat)) ∧ w'.cell? ⟨wr.heap.size, 1, none⟩ = some (.int .i64 (na : Nat)) ∧ w'.cell? ⟨wr.heap.size, 2, none⟩ = some (.int .i64 (l1 : Nat)) ∧ w'.cell? ⟨wr.heap.size, 3, none⟩ = some (.int .i64 (l1 : Nat)) ∧ Ext W1 w')
        (first | with_reducible exact facts24 SX.out.1 SX.out.2.1 SX.out.2.2.1 SX.out.2.2.2.1 SX.out.2.2.2.2.1 SX.out.2.2.2.2.2.1 (Ext.refl _).drew | with_reducible exact facts24 SX.out.1 SX.out.2.1 SX.out.2.2.1 SX.out.2.2.2.1 SX.out.2.2.2.2.1 SX.out.2.2.2.2.2.1 x5 | with_reducible exact facts24 SX.out.1 SX.out.2.1 SX.out.2.2.1 SX.out.2.2.2.1 SX.out.2.2.2.2.1 SX.out.2.2.2.2.2.1 x4 | fail)
        (first
          | (go_at_call 41; refine (C3.out _).mono ?_; rintro e w4 ⟨rfl, hx4⟩; with_reducible have x4 : Ext W1 w4 := (Ext.refl W1).drew.trans hx4)
          | (go_at_call 64; refine (CE.out _).mono ?_; rintro e w5 ⟨rfl, hx5⟩; with_reducible have x5 : Ext W1 w5 := x4.trans hx5)
          | fail)
      have XX := Lib.hid (X3.out.trans (XA.out.trans x5))
      have X5 := Lib.hid (XA.out.trans x5)
      by_cases hp2 : p < na + pk
      · have t1 : (p : Int) < (na : Int) + pk := by omega
        have PE := Lib.hid (PK.out hp2)
        go_wp2_with fail
        rw [PE.out]
        exact bodyPost_ret (v := .tuple #[.int .i64 k, .bool true]) (by simp [results, Tryd.results26, go_sem]) rfl ⟨rfl, XX.out⟩
      · have t1 : ¬ (p : Int) < (na : Int) + pk := by omega
        have HP2 := Lib.hid (PNX.out hp2)
        go_wp2_with fail
        exact ⟨⟨k + 1, by omega, by go_num, HP2.out, X5.out⟩, by simp [intOf]; omega⟩
    · obtain rfl : k = la.length := by omega
      obtain ⟨q, hq⟩ : ∃ q, la.length = q + 1 := ⟨la.length - 1, by omega⟩
      have PE : Hid (pcAt la p = q) := by
        show _ = _
        unfold pcAt
        rw [List.findIdx?_eq_none_iff.2 (fun x hx => by
          obtain ⟨j, hj, rfl⟩ := List.mem_iff_getElem.1 hx
          have := HP.out j la[j] hj (List.getElem?_eq_getElem _)
          simp; omega)]
        show la.length - 1 = q
        omega
      have XX := Lib.hid (X3.out.trans HX.out)
      have HQ := Lib.hid hq
      go_wp2_with fail
      rw [PE.out]
      exact bodyPost_ret (v := .tuple #[.int .i64 q, .bool true]) (by have := HQ.out; simp [results, Tryd.results26, go_sem, this]) rfl ⟨rfl, XX.out⟩
set_option maxHeartbeats 3200000 in
theorem LeafOf_no (s : ByteArray) (n d : Int) (h : ¬ ((∃ T, s = tx T ∧ T.carets ≤ 8) ∧ goodB n d = true)) (w : World) :
    Calls Tryd.prog 26 #[.string s, .agg #[.int .i64 n, .int .i64 d]] w fun e w' => e = .returned (.tuple #[.int .i64 0, .bool false]) ∧ Ext w w' := by
  have X0 := Lib.hid ((Ext.refl w).alloc (.cells #[.int .i64 n, .int .i64 d] 31))
  have B0 := heap_alloc_new w (.cells #[.int .i64 n, .int .i64 d] 31)
  obtain ⟨b0, b1⟩ := cells_of B0
  have B0 := Lib.hid B0
  have C2 := Lib.hid (fun W => isFraction_calls n d W)
  by_cases hp : ∃ T, s = tx T ∧ T.carets ≤ 8
  · obtain ⟨T, rfl, hT⟩ := hp
    have hg : goodB n d = false := Bool.eq_false_iff.2 fun hg => h ⟨⟨T, rfl, hT⟩, hg⟩
    rw [hg] at C2
    have C1 := Lib.hid (fun W => parse_yes T W hT)
    clear h hg hT
    go_enter Tryd.func26, Tryd.ntmps26
    go_wp2_with fail
    generalize w.alloc (.cells #[.int .i64 n, .int .i64 d] 31) = W at *
    refine (C1.out _).mono ?_
    rintro e w1 ⟨pa, rfl, rA, x1⟩
    have X1 := Lib.hid (X0.out.trans x1)
    obtain ⟨c0, c1⟩ := cells_of (x1.at B0.out)
    clear b0 b1 x1 rA
    go_wp2_with fail
    refine (C2.out _).mono ?_
    rintro e w2 ⟨rfl, x2⟩
    have X2 := Lib.hid (X1.out.trans x2)
    clear c0 c1 x2
    go_wp2_with fail
    go_ret2
    exact ⟨rfl, X2.out⟩
  · have C1 := Lib.hid (fun W => parse_no s W hp)
    clear h hp
    go_enter Tryd.func26, Tryd.ntmps26
    go_wp2_with fail
    generalize w.alloc (.cells #[.int .i64 n, .int .i64 d] 31) = W at *
    refine (C1.out _).mono ?_
    rintro e w1 ⟨rfl, x1⟩
    have X1 := Lib.hid (X0.out.trans x1)
    clear x1 b0 b1
    go_wp2_with fail
    go_ret2
    exact ⟨rfl, X1.out⟩
theorem stF_halve (a : List UInt8) (ha : a.length ≤ 40) : stF a = halve 40 (plA a) 1099511627776 := by
  have hp := plI_nbI a a.length (by omega)
  have key : nbI a a.length * 1099511627776 = plA a * 2 ^ a.length := by
    unfold plA
    rw [hp, ← part_mul ha]
    unfold part
    ac_rfl
  obtain ⟨q1, q2⟩ := low_eq (Nat.two_pow_pos a.length) (show 0 < 1099511627776 by omega) key
  have e : halve 40 (plA a) 1099511627776 = _ := halve_gcd 40 (plA a)
  rw [e]
  unfold stF sN sD
  rw [q1, q2]
set_option maxHeartbeats 6400000 in
set_option maxRecDepth 100000 in
theorem LeafStarts_yes (T : Tr) (hT : T.carets ≤ 8) (w : World) :
    Calls Tryd.prog 28 #[.string (tx T)] w fun e w' => ∃ v, e = .returned (.tuple #[v, .bool true]) ∧ w'.ownsRow w.heap.size 31 2 v (T.carets + 1) (frs ((addrs T []).map stF)) ∧ Ext w w' := by
  have C0 := Lib.hid (fun W => parse_yes T W hT)
  have C1 := Lib.hid (fun pa W ra => addresses_calls T [] ⟨#[]⟩ pa W (by omega) (by simp; omega) rfl ra)
  have HL : Hid (∀ x ∈ addrs T [], x.length ≤ 40) := fun x hx => by have := addrs_depth T [] x hx; have := T.depth_le; simp at *; omega
  have LA := addrs_length T []
  rw [← LA]
  have L1 : (addrs T []).length ≤ 9 := by omega
  generalize addrs T [] = l at *
  generalize tx T = t at *
  clear LA
  go_enter Tryd.func28, Tryd.ntmps28
  go_wp2_with fail
  refine (C0.out _).mono ?_
  rintro e w0 ⟨pa, rfl, rA, x0⟩
  have X0 := Lib.hid x0
  have RA := Lib.hid rA
  clear rA x0
  go_wp2_with fail
  refine (C1.out pa _ RA.out).mono ?_
  rintro e w1 ⟨v1, rfl, o1, x1⟩
  obtain ⟨A1, q1, rfl, _, _⟩ := o1.reads
  rw [sls_length] at o1 ⊢
  have R1 := Lib.hid o1.reads
  have X1 := Lib.hid (X0.out.trans x1)
  clear o1 x1
  go_wp2_with fail
  go_loopw [21, 6] (fun i o wr => ∃ k : Nat, k ≤ l.length ∧ i = .int .i64 k ∧ Hid (wr.ownsRow w1.heap.size 31 2 o k (frs ((l.take k).map stF))) ∧ Hid (Ext w1 wr)) (fun i _ _ => l.length - (intOf i).toNat)
  case atStart => exact ⟨0, Nat.zero_le _, rfl, World.ownsRow_nil _ _ _ _, Ext.refl _⟩
  case round =>
    obtain ⟨k, hk, rfl, HO, HX⟩ := hrel
    by_cases hlt : k < l.length
    · obtain ⟨Ax, cx, e1, _, rd⟩ := R1.out.ext HX.out
      rw [sls_length] at rd e1
      obtain ⟨ad, e2, ca⟩ := rd (by omega)
      injection e1 with e3 e4 e5
      subst e3 e5
      subst e2
      clear e4
      have c1 := ca k _ (sls_get l k hlt)
      have h0 : (0 : Int) ≤ k := by omega
      have h1 : (k : Int) < l.length := by omega
      have ha := HL.out _ (List.getElem_mem hlt)
      have hpl : plA l[k] ≤ 1099511627776 := by have := plI_le l[k] l[k].length ha; unfold plA; omega
      have C2 := Lib.hid (fun W => placeOf_calls l[k] ha W)
      have C3 := Lib.hid (fun W => fractionAt_calls (plA l[k]) hpl W)
      have SF := stF_halve l[k] ha
      have TK : Hid (frs ((l.take (k + 1)).map stF) = frs ((l.take k).map stF) ++ [.int .i64 ((halve 40 (plA l[k]) 1099511627776).1 : Nat), .int .i64 ((halve 40 (plA l[k]) 1099511627776).2 : Nat)]) := by
        show _ = _
        rw [← SF, List.take_add_one, List.getElem?_eq_getElem hlt, List.map_append, frs_append]; rfl
      change Hid (∀ W, Calls _ _ _ W fun e w' => e = .returned (.int .i64 (plA l[k] : Nat)) ∧ W = w') at C2
      clear ca rd SF hpl ha
      generalize (halve 40 (plA l[k]) 1099511627776).1 = sn at *
      generalize (halve 40 (plA l[k]) 1099511627776).2 = sd at *
      generalize plA l[k] = pl at *
      generalize l[k] = a at *
      generalize decide (sd ≤ 1024) = bb at *
      go_wp2_with fail
      refine (C2.out _).mono ?_
      rintro e w2 ⟨rfl, rfl⟩
      go_wp2_with fail
      refine (C3.out _).mono ?_
      rintro e w3 ⟨rfl, x3⟩
      have N3 := heap_alloc_new w3 (.cells #[.int .i64 (sn : Nat), .int .i64 (sd : Nat)] 31)
      obtain ⟨m0, m1⟩ := cells_of N3
      have xx := ((Ext.refl w3).alloc (.cells #[.int .i64 (sn : Nat), .int .i64 (sd : Nat)] 31)).alloc (.cells #[.int .i64 (sn : Nat), .int .i64 (sd : Nat)] 31)
      have O2 := row_ext HO.out (x3.trans xx)
      have X2 := Lib.hid (HX.out.trans (x3.trans xx))
      have LO := Lib.hid (fun j hj => (O2.lt j hj).1)
      have NC := new_cells (w3.alloc (.cells #[.int .i64 (sn : Nat), .int .i64 (sd : Nat)] 31)) #[.int .i64 (sn : Nat), .int .i64 (sd : Nat)] 31
      rw [show (w3.alloc (.cells #[.int .i64 (sn : Nat), .int .i64 (sd : Nat)] 31)).heap.size = w3.heap.size + 1 from Array.size_push _] at NC
      have NC := Lib.hid NC
      clear N3 xx x3
      go_wp2_with (at_builtin; refine wpList_appK rfl (.tmp 31) (.tmp 33) 55 rfl w1.heap.size 31 _ 2 16 Tryd.underlying55 infoFr rfl (by omega) _ k 1 1 _ _ [.int .i64 (sn : Nat), .int .i64 (sd : Nat)] rfl rfl O2 rfl NC.out (by simp [Value.oneCell']) (by unfold maxLen; omega) (by omega) X2.out.size ?_; intro v4 w4 o4 g4 _)
      have X4 := Lib.hid (X2.out.grown g4 LO.out)
      rw [← TK.out] at o4
      have O4 := Lib.hid o4
      clear o4 g4 O2
      go_wp2_with fail
      exact ⟨⟨k + 1, by omega, by go_num, O4.out, X4.out⟩, by simp [intOf]; omega⟩
    · have h1 : (l.length : Int) ≤ k := by omega
      obtain rfl : k = l.length := by omega
      have HO2 := HO.out
      rw [List.take_length] at HO2
      have HO2 := Lib.hid HO2
      go_wp2_with fail
      go_ret2
      exact ⟨_, rfl, row_mono HO2.out X1.out.size, X1.out.trans HX.out⟩
set_option maxHeartbeats 3200000 in
theorem LeafStarts_no (s : ByteArray) (h : ¬ ∃ T, s = tx T ∧ T.carets ≤ 8) (w : World) :
    Calls Tryd.prog 28 #[.string s] w fun e w' => e = .returned (.tuple #[.slice none 0 0, .bool false]) ∧ Ext w w' := by
  have C1 := Lib.hid (fun W => parse_no s W h)
  clear h
  go_enter Tryd.func28, Tryd.ntmps28
  go_wp2_with fail
  refine (C1.out _).mono ?_
  rintro e w1 ⟨rfl, x1⟩
  go_wp2_with fail
  go_ret2
  exact ⟨rfl, x1⟩
theorem IsTree_yes (T : Tr) (hT : T.carets ≤ 8) (w : World) : Calls Tryd.prog 31 #[.string (tx T)] w fun e w' => e = .returned (.bool true) ∧ Ext w w' := by
  have C1 := Lib.hid (fun W => parse_yes T W hT)
  generalize tx T = t at *
  go_enter Tryd.func31, Tryd.ntmps31
  go_wp2_with fail
  refine (C1.out _).mono ?_
  rintro e w1 ⟨p, rfl, r, x1⟩
  have X1 := Lib.hid x1
  clear r x1
  go_wp2_with fail
  go_ret
  exact ⟨rfl, X1.out⟩
theorem IsTree_no (s : ByteArray) (h : ¬ ∃ T, s = tx T ∧ T.carets ≤ 8) (w : World) : Calls Tryd.prog 31 #[.string s] w fun e w' => e = .returned (.bool false) ∧ Ext w w' := by
  have C1 := Lib.hid (fun W => parse_no s W h)
  clear h
  go_enter Tryd.func31, Tryd.ntmps31
  go_wp2_with fail
  refine (C1.out _).mono ?_
  rintro e w1 ⟨rfl, x1⟩
  go_wp2_with fail
  go_ret
  exact ⟨rfl, x1⟩
end Go.Proofs.YtgnepbogadfinaaDoor.N
