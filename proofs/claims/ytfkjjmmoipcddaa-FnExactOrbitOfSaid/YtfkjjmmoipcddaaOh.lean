import Derived.Test.YtfkjjmmoipcddaaBa
import Derived.Test.YtfkjjmmoipcddaaPu
import Derived.Test.YtfkjjmmoipcddaaSl
import Derived.Test.YtfkjjmmoipcddaaProg
import Derived.Test.YtfkjjmmoipcddaaTn
import Derived.Test.YtfkjjmmoipcddaaTs
import Derived.Test.YtfkjjmmoipcddaaPh
import Derived.Test.YtfkjjmmoipcddaaWl
import Derived.Test.YtfkjjmmoipcddaaT3
import Derived.Test.YtfkjjmmoipcddaaTp
import Derived.Test.YtfkjjmmoipcddaaTr
import Derived.Test.YtfkjjmmoipcddaaTu
import Derived.Test.YtfkjjmmoipcddaaTj
import Derived.Test.YtfkjjmmoipcddaaTk
import Derived.Test.YtfkjjmmoipcddaaVt
import Derived.Test.YtfkjjmmoipcddaaRh
import Derived.Test.YtfkjjmmoipcddaaFa
import Derived.Test.YtfkjjmmoipcddaaFb
import Derived.Test.YtfkjjmmoipcddaaFc
import Derived.Test.YtfkjjmmoipcddaaPf
import Derived.Test.YtfkjjmmoipcddaaFd
import Derived.Test.YtfkjjmmoipcddaaFe
import Derived.Test.YtfkjjmmoipcddaaFf
import Derived.Test.YtfkjjmmoipcddaaFg
import Derived.Test.YtfkjjmmoipcddaaFh
import Derived.Test.YtfkjjmmoipcddaaFi
import Derived.Test.YtfkjjmmoipcddaaFj
import Derived.Test.YtfkjjmmoipcddaaSf
import Derived.Test.YtfkjjmmoipcddaaOg
import Derived.Deep.LoopGhost
import Derived.Deep.RegionHeld3
import Derived.Deep.QuietTactic
import Derived.Deep.CutRange
import Derived.StillTailTactics
/- OrbitOf of the program. -/
namespace Go.Proofs.Ytfkjjmmoipcddaa.N
open Go.RowKit
set_option linter.unusedVariables false
set_option linter.unusedSimpArgs false

/-- A pair and a fraction in boxes. -/
theorem boxPF (w : World) (a b c d : Value) (s t : TypeId) :
    Ext w ((w.alloc (.cells #[a, b] s)).alloc (.cells #[c, d] t)) ∧ ((w.alloc (.cells #[a, b] s)).alloc (.cells #[c, d] t)).heap[w.heap.size]? = some (.cells #[a, b] s) ∧ ((w.alloc (.cells #[a, b] s)).alloc (.cells #[c, d] t)).heap[w.heap.size + 1]? = some (.cells #[c, d] t) := by
  have h0 := ((Ext.refl _).alloc (.cells #[c, d] t)).at (heap_alloc_new w (.cells #[a, b] s))
  have h1 := heap_alloc_new (w.alloc (.cells #[a, b] s)) (.cells #[c, d] t)
  rw [show (w.alloc (.cells #[a, b] s)).heap.size = w.heap.size + 1 by simp] at h1
  exact ⟨((Ext.refl w).alloc _).alloc _, h0, h1⟩

set_option maxHeartbeats 6400000 in
set_option maxRecDepth 100000 in
theorem implOO_yes (A B : Tr) (hc : A.carets = B.carets) (hB : B.carets ≤ 8) (x : Nat × Nat) (hx : FrOk x) (n : Nat) (hn : n ≤ 20) (w : World) :
    Calls Try.prog 49 #[.agg #[.string (tx A), .string (tx B)], .agg #[.int .i64 (x.1 : Nat), .int .i64 (x.2 : Nat)], .int .i64 n] w fun e w' => ∃ v, e = .returned (.tuple #[v, .bool (orbT A B x n).isSome]) ∧ w'.ownsRow w.heap.size 61 2 v ((orbT A B x n).getD []).length (frs ((orbT A B x n).getD [])) ∧ Ext w w' := by
  obtain ⟨X2, b3, b4⟩ := boxPF w (.string (tx A)) (.string (tx B)) (.int .i64 (x.1 : Nat)) (.int .i64 (x.2 : Nat)) 29 61
  have X2 := Lib.hid X2
  have B4 := Lib.hid b4
  obtain ⟨c0, c1⟩ := cells_of b3
  have C1 := Lib.hid (fun W => pairOf_yes A B hc hB W)
  have C2 : Hid (∀ W, Calls Try.prog 102 #[.agg #[.int .i64 (x.1 : Nat), .int .i64 (x.2 : Nat)]] W fun e w' => e = .returned (.bool true) ∧ Ext W w') := by
    intro W
    have := isFraction_calls (x.1 : Nat) (x.2 : Nat) W
    unfold FrOk at hx
    rw [hx] at this
    exact this
  have CP : Hid (∀ y : Nat × Nat, FrOk y → ∀ W, Calls Try.prog 105 #[.agg #[.int .i64 (y.1 : Nat), .int .i64 (y.2 : Nat)]] W fun e w' => e = .returned (.int .i64 ((y.1 * (1099511627776 / y.2) : Nat) : Int)) ∧ Ext W w') := by
    intro y hy W
    obtain ⟨k, h1, h2, h3⟩ := hy.form
    have := place_calls y.1 (2 ^ k) (part k) (part_mul (by omega)) h3 (Nat.two_pow_pos k) W
    rw [h2, part_div (by omega)]
    exact this
  have CC := Lib.hid (fun p (hp : p ≤ 1099511627776) pa pb W => carried_calls A B hc (by omega) p hp pa pb W)
  have CF : Hid (∀ y : Nat × Nat, FrOk y → ∀ W, Calls Try.prog 107 #[.int .i64 (vaF A B (y.1 * (1099511627776 / y.2)) : Nat)] W fun e w' => e = .returned (.tuple #[.agg #[.int .i64 ((nxt A B y).1 : Nat), .int .i64 ((nxt A B y).2 : Nat)], .bool (decide ((nxt A B y).2 ≤ 1024))]) ∧ Ext W w') := by
    intro y hy W
    exact fractionAt_calls _ (vaF_le A B hc hB _ hy.place) W
  have NX := Lib.hid (fun (y : Nat × Nat) (hy : FrOk y) => hy.next A B hc hB)
  have S0 : Hid (seqO A B x 0 = x) := rfl
  have SS : Hid (∀ j, seqO A B x (j + 1) = nxt A B (seqO A B x j)) := fun j => rfl
  have NN := Lib.hid (fun j => @orbT_none A B x n j)
  have YY : Hid ((∀ j, j ≤ n → (seqO A B x j).2 ≤ 1024) → orbT A B x n = some ((List.range (n + 1)).map (seqO A B x))) := fun h => by unfold orbT; rw [if_pos h]
  have HX := Lib.hid hx
  have hn' : (n : Int) ≤ 20 := by omega
  generalize orbT A B x n = R at *
  generalize seqO A B x = sq at *
  generalize nxt A B = nx at *
  generalize vaF A B = va at *
  generalize tx A = a at *
  generalize tx B = b at *
  clear hc hB hx b3 b4
  go_enter Try.func49, Try.ntmps49
  go_wp2_with fail
  generalize (w.alloc (.cells #[.string a, .string b] 29)).alloc (.cells #[.int .i64 (x.1 : Nat), .int .i64 (x.2 : Nat)] 61) = W at *
  refine (C1.out _).mono ?_
  rintro e w1 ⟨pa, pb, rfl, rA, rB, x1⟩
  have xa := x1.alloc (.cells #[.pointer pa, .pointer pb] 78)
  have X1 := Lib.hid (X2.out.trans xa)
  have B4 := Lib.hid (xa.at B4.out)
  have B8 := Lib.hid (heap_alloc_new w1 (.cells #[.pointer pa, .pointer pb] 78))
  have RA := Lib.hid (rA.ext ((Ext.refl w1).alloc (.cells #[.pointer pa, .pointer pb] 78)))
  have RB := Lib.hid (rB.ext ((Ext.refl w1).alloc (.cells #[.pointer pa, .pointer pb] 78)))
  obtain ⟨c2, c3⟩ := cells_of B4.out
  clear x1 xa rA rB c0 c1
  go_wp2_with fail
  generalize w1.alloc (.cells #[.pointer pa, .pointer pb] 78) = W1 at *
  refine (C2.out _).mono ?_
  rintro e w2 ⟨rfl, x2⟩
  have X3 := Lib.hid (X1.out.trans x2)
  have B8 := Lib.hid (x2.at B8.out)
  have RA := Lib.hid (RA.out.ext x2)
  have RB := Lib.hid (RB.out.ext x2)
  obtain ⟨c2, c3⟩ := cells_of (x2.at B4.out)
  have LIT := Lib.hid (row_lit2 w2 w2.heap.size (.int .i64 (x.1 : Nat)) (.int .i64 (x.2 : Nat)) 61 (Nat.le_refl _))
  have xl := (Ext.refl w2).alloc (.cells #[.int .i64 (x.1 : Nat), .int .i64 (x.2 : Nat)] 61)
  have XL := Lib.hid xl
  clear x2 xl B4 C1 C2
  go_wp2_with fail
  have E0 : Hid (frs ((List.range (0 + 1)).map sq) = [.int .i64 (x.1 : Nat), .int .i64 (x.2 : Nat)]) := by show _ = _; simp [frs, S0.out]
  go_loopw [36, 10] (fun i v wr => ∃ j : Nat, j ≤ n ∧ i = .int .i64 j ∧ Hid (wr.ownsRow w2.heap.size 61 2 v (j + 1) (frs ((List.range (j + 1)).map sq))) ∧ Hid (∀ i, i ≤ j → FrOk (sq i)) ∧ Hid (Ext w2 wr)) (fun i _ _ => n - (intOf i).toNat)
  case atStart => exact ⟨0, Nat.zero_le _, rfl, (by show World.ownsRow _ _ _ _ _ _ _; rw [E0.out]; exact LIT.out), (fun i hi => by obtain rfl : i = 0 := (by omega); rw [S0.out]; exact HX.out), XL.out⟩
  case round =>
    obtain ⟨j, hj, rfl, HO, HK, HE⟩ := hrel
    by_cases hlt : j < n
    · have h0 : (0 : Int) ≤ j := by omega
      have h1 : (j : Int) < n := by omega
      obtain ⟨g, cap, rfl, hcell⟩ := new_slice_cell HO.out (by omega)
      have hget := frs_get ((List.range (j + 1)).map sq) j (sq j) (by rw [List.getElem?_map, List.getElem?_range (by omega)]; rfl)
      have d0 := hcell _ _ hget.1
      have d1 := hcell _ _ hget.2
      have FJ := HK.out j (Nat.le_refl _)
      have PL := Lib.hid (CP.out (sq j) FJ)
      have CR := Lib.hid (fun W (h : Ext w2 W) => CC.out _ FJ.place pa pb W (RA.out.ext h) (RB.out.ext h))
      have CT := Lib.hid (CF.out (sq j) FJ)
      have NJ := Lib.hid (NX.out (sq j) FJ)
      have SJ := Lib.hid (SS.out j)
      obtain ⟨d2, d3⟩ := cells_of (HE.out.at B8.out)
      obtain ⟨n1, hn1⟩ : ∃ n1 : Nat, j + 1 = n1 := ⟨_, rfl⟩
      have I1 : (n1 : Int) ≤ 21 := by omega
      have I2 : (1 : Int) ≤ n1 := by omega
      have W1' : IntKind.i64.wrap ((n1 : Int) - 1) = (j : Int) := by rw [wrap_ok (by omega)]; omega
      have I3 : (j : Int) < n1 := by omega
      have HN1 := Lib.hid hn1
      have TK := Lib.hid (range_map_snoc sq (j + 1))
      generalize hpl : (sq j).1 * (1099511627776 / (sq j).2) = pl at *
      generalize va pl = vv at *
      generalize nx (sq j) = ny at *
      generalize (sq j).1 = m0 at *
      generalize (sq j).2 = m1 at *
      rw [hn1]
      clear hcell hget hn1 FJ hpl
      go_wp2_with fail
      have KX : ∀ w', Ext wr w' → w'.cell? ⟨w1.heap.size, 0, none⟩ = some (.pointer pa) ∧ w'.cell? ⟨w1.heap.size, 1, none⟩ = some (.pointer pb) ∧ w'.cell? ⟨g, j * 2, none⟩ = some (.int .i64 (m0 : Nat)) ∧ w'.cell? ⟨g, j * 2 + 1, none⟩ = some (.int .i64 (m1 : Nat)) := fun w' h => ⟨h.cell d2, h.cell d3, h.cell d0, h.cell d1⟩
      go_cut [11, 12] from 38 to 50 (fun u d wx => ∃ g, u = .pointer (some ⟨g, 0, none⟩) ∧ d = .bool (decide (ny.2 ≤ 1024)) ∧ wx.heap[g]? = some (.cells #[.int .i64 (ny.1 : Nat), .int .i64 (ny.2 : Nat)] 61) ∧ Ext wr wx)
      case first =>
        go_region_held3 (fun w' => w'.cell? ⟨w1.heap.size, 0, none⟩ = some (.pointer pa) ∧ w'.cell? ⟨w1.heap.size, 1, none⟩ = some (.pointer pb) ∧ w'.cell? ⟨g, j * 2, none⟩ = some (.int .i64 (m0 : Nat)) ∧ w'.cell? ⟨g, j * 2 + 1, none⟩ = some (.int .i64 (m1 : Nat)))
          (first | exact KX _ (Ext.refl _).drew | exact KX _ ((Ext.refl _).alloc _).drew | exact KX _ x3 | exact KX _ (x3.alloc _) | exact KX _ x4 | exact KX _ (x4.alloc _) | exact KX _ x5 | exact KX _ (x5.alloc _) | exact KX _ (x5.set2 hg (.int .i64 (ny.1 : Nat)) (.int .i64 (ny.2 : Nat))) | fail)
          (first
            | (go_at_call 105; refine (PL.out _).mono ?_; rintro e w3 ⟨rfl, hx3⟩; (first | (with_reducible have x3 := (Ext.refl wr).drew.trans hx3) | (have TW := ((Two.new wr (.int .i64 0) (.int .i64 0) 61 rfl).ext (Ext.refl _).drew).ext hx3; have hg := Nat.le_refl wr.heap.size; have x3 := ((Ext.refl wr).alloc _).drew.trans hx3)))
            | (go_at_call 104; (first | ((with_reducible refine (CR.out _ (HE.out.trans x3)).mono ?_); rintro e w4 ⟨rfl, _, hx4⟩; have x4 := x3.trans hx4; (first | (with_reducible have TW := TW.ext hx4) | skip)) | (refine (CR.out _ (HE.out.trans (x3.alloc _))).mono ?_; rintro e w4 ⟨rfl, _, hx4⟩; have TW := (Two.new w3 (.int .i64 0) (.int .i64 0) 61 rfl).ext hx4; have hg := Ext.heap x3; have x4 := (x3.alloc _).trans hx4)))
            | (go_at_call 107; refine (CT.out _).mono ?_; rintro e w5 ⟨rfl, hx5⟩; (first | (with_reducible have x5 := x4.trans hx5; (first | (with_reducible have TW5 := TW.ext hx5; obtain ⟨u, v, k0, k1, f0, f1⟩ := TW5.facts) | skip)) | (have TW5 := (Two.new w4 (.int .i64 0) (.int .i64 0) 61 rfl).ext hx5; have hg := Ext.heap x4; have x5 := (x4.alloc _).trans hx5; obtain ⟨u, v, k0, k1, f0, f1⟩ := TW5.facts)))
            | fail)
        all_goals
          go_wp2_with fail
          go_meet
          first
            | exact ⟨_, rfl, rfl, heap_alloc_new w5 _, x5.alloc _⟩
            | exact ⟨_, rfl, rfl, set2_heap TW5 (.int .i64 (ny.1 : Nat)) (.int .i64 (ny.2 : Nat)), x5.set2 hg (.int .i64 (ny.1 : Nat)) (.int .i64 (ny.2 : Nat))⟩
      case rest =>
        obtain ⟨gq, rfl, rfl, hq, XA⟩ := hcut
        obtain ⟨e0, e1⟩ := cells_of hq
        have HE2 := Lib.hid (HE.out.trans XA)
        have HO2 := Lib.hid (row_ext HO.out XA)
        clear KX d0 d1 d2 d3 hq XA
        generalize wc = wd at *
        by_cases hd : ny.2 ≤ 1024
        · have KN : Hid (∀ i, i ≤ j + 1 → FrOk (sq i)) := by
            intro i hi
            by_cases hij : i ≤ j
            · exact HK.out i hij
            · obtain rfl : i = j + 1 := (by omega)
              show goodB _ _ = true
              rw [SJ.out, NJ.out, decide_eq_true hd]
          rw [decide_eq_true hd]
          have TE : Hid (frs ((List.range (j + 1 + 1)).map sq) = frs ((List.range (j + 1)).map sq) ++ [.int .i64 (ny.1 : Nat), .int .i64 (ny.2 : Nat)]) := by
            show _ = _
            rw [TK.out, frs_append, SJ.out]; rfl
          have O3 := HO2.out
          rw [HN1.out] at O3
          have O3 := row_ext O3 ((Ext.refl wd).alloc (.cells #[.int .i64 (ny.1 : Nat), .int .i64 (ny.2 : Nat)] 61))
          have X3' := Lib.hid (HE2.out.alloc (.cells #[.int .i64 (ny.1 : Nat), .int .i64 (ny.2 : Nat)] 61))
          have LO := Lib.hid (fun j hj => (O3.lt j hj).1)
          clear hd
          go_wp2_with (at_builtin; refine wpList_appK rfl (.tmp 53) (.tmp 55) 67 rfl w2.heap.size 61 _ 2 16 Try.underlying67 infoFr rfl (by omega) _ n1 1 1 _ _ [.int .i64 (ny.1 : Nat), .int .i64 (ny.2 : Nat)] rfl rfl O3 rfl (new_cells wd #[.int .i64 (ny.1 : Nat), .int .i64 (ny.2 : Nat)] _) (by simp [Value.oneCell']) (by unfold maxLen; omega) (by omega) X3'.out.size ?_; intro v4 w4 o4 g4 _)
          have X4 := Lib.hid (X3'.out.grown g4 LO.out)
          rw [← HN1.out, ← TE.out] at o4
          have O4 := Lib.hid o4
          clear o4 g4 O3
          go_wp2_with fail
          exact ⟨⟨j + 1, by omega, by go_num, O4.out, KN.out, X4.out⟩, by simp [intOf]; omega⟩
        · have RN : Hid (R = none) := NN.out (j + 1) (by omega) (by rw [SJ.out]; exact hd)
          rw [decide_eq_false hd]
          clear hd
          go_wp2_with fail
          go_ret2
          rw [RN.out]
          exact ⟨_, rfl, World.ownsRow_nil _ _ _ _, X3.out.trans HE2.out⟩
    · have h1 : (n : Int) ≤ j := by omega
      obtain rfl : j = n := by omega
      have RS : Hid (R = some ((List.range (j + 1)).map sq)) := YY.out fun i hi => (HK.out i hi).small
      go_wp2_with fail
      go_ret2
      rw [RS.out]
      refine ⟨_, rfl, ?_, X3.out.trans HE.out⟩
      simp only [Option.getD_some, List.length_map, List.length_range]
      exact row_mono HO.out X3.out.size
end Go.Proofs.Ytfkjjmmoipcddaa.N
