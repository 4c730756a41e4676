import Derived.Test.YtfjhecilkeikiaaG1RFnExactRootsOf
import Derived.Test.YtfjhecilkeikiaaG2RFnExactRootsOf
import Derived.Test.YtfjhecilkeikiaaProg
import Derived.Test.YtfjhecilkeikiaaG6RFnExactRootsOf
import Derived.Test.YtfjhecilkeikiaaG7RFnExactRootsOf
import Derived.Test.YtfjhecilkeikiaaG8RFnExactRootsOf
import Derived.Test.YtfjhecilkeikiaaG5RFnExactRootsOf
import Derived.Test.YtfjhecilkeikiaaG3RFnExactRootsOf
import Derived.Test.YtfjhecilkeikiaaG11RFnExactRootsOf
import Derived.Test.YtfjhecilkeikiaaG14RFnExactRootsOf
import Derived.Test.YtfjhecilkeikiaaG10RFnExactRootsOf
import Derived.Test.YtfjhecilkeikiaaG12RFnExactRootsOf
import Derived.Test.YtfjhecilkeikiaaG13RFnExactRootsOf
import Derived.Test.YtfjhecilkeikiaaG15RFnExactRootsOf
import Derived.Test.YtfjhecilkeikiaaG16RFnExactRootsOf
import Derived.Test.YtfjhecilkeikiaaG18RFnExactRootsOf
import Derived.Test.YtfjhecilkeikiaaG19RFnExactRootsOf
import Derived.Test.YtfjhecilkeikiaaG20RFnExactRootsOf
import Derived.Test.YtfjhecilkeikiaaG21RFnExactRootsOf
import Derived.Test.YtfjhecilkeikiaaG22RFnExactRootsOf
import Derived.Test.YtfjhecilkeikiaaG23RFnExactRootsOf
import Derived.Test.YtfjhecilkeikiaaG24RFnExactRootsOf
import Derived.Test.YtfjhecilkeikiaaG25RFnExactRootsOf
import Derived.Test.YtfjhecilkeikiaaG26RFnExactRootsOf
import Derived.Test.YtfjhecilkeikiaaG28RFnExactRootsOf
import Derived.Deep.LoopGhost
import Derived.Deep.RegionHeld3
import Derived.Deep.QuietTactic
import Derived.BigQuiet
/- RootsOf: the reference's. -/
namespace Go.Proofs.Ytfjhecilkeikiaa.N
open Go.RowKit
set_option linter.unusedVariables false
set_option linter.unusedSimpArgs false

set_option maxHeartbeats 6400000 in
set_option maxRecDepth 100000 in
theorem specRO_yes (A B : Tr) (hc : A.carets = B.carets) (hB : B.carets ≤ 8) (n : Nat) (hn2 : 2 ≤ n) (hn : n ≤ 4) (w : World) : Calls Try.prog 28 #[.agg #[.string (tx A), .string (tx B)], .int .i64 n] w (GivesPS w (tps ((smallP 3).filter (rootB (A, B) n))) true) := by
  have CT := Lib.hid (cjSmall_calls 3 (by omega))
  have CI := Lib.hid (fun W => l1In_calls (n : Int) 2 4 W)
  rw [decide_eq_true (show (2 : Int) ≤ n ∧ (n : Int) ≤ 4 by omega)] at CI
  have CG := Lib.hid (fun W => prGood_yes A B hc hB W)
  have PM : Hid (∀ q ∈ smallP 3, q.1.carets = q.2.carets ∧ q.2.carets ≤ 3) := fun q hq => by
    obtain ⟨k, h1, h2, h3, _⟩ := smallP_mem hq
    omega
  have EL : Hid ((tps ((smallP 3).filter (rootB (A, B) n))).length = ((smallP 3).filter (rootB (A, B) n)).length) := tps_length _
  have EP : Hid (psT (tps ((smallP 3).filter (rootB (A, B) n))) = psP ((smallP 3).filter (rootB (A, B) n))) := rfl
  have LR : Hid ((smallP 3).length ≤ 784) := Nat.le_trans (smallP_le (3 + 1) (by omega)) (by omega)
  have EF : Hid (fil (rootB (A, B) n) (smallP 3) (smallP 3).length = (smallP 3).filter (rootB (A, B) n)) := by show _ = _; unfold fil; rw [List.take_length]
  have CM := Lib.hid (fun (C D : Tr) (h1 : C.carets = D.carets) (h2 : D.carets ≤ 3) (j : Nat) (hj : j ≤ 4) W => prTimes_calls (powT (C, D) j).1 (powT (C, D) j).2 C D (powT_carets (q := (C, D)) h1 h2 j).1 h1 (by have := (powT_carets (q := (C, D)) h1 h2 j).2; omega) (by omega) W)
  have CR := Lib.hid (fun W => prReduce_calls A B (by omega) (by omega) W)
  have CU := Lib.hid (fun W => prUnit_calls W)
  have hq : (red (A, B)).1.carets ≤ 8 ∧ (red (A, B)).2.carets ≤ 8 := by have := red_le (A, B); simp only at this; exact ⟨by omega, by omega⟩
  have CX := Lib.hid (fun W => prText_calls (red (A, B)).1 (red (A, B)).2 (by omega) (by omega) W)
  rw [show ((red (A, B)).1, (red (A, B)).2) = red (A, B) from rfl] at CX
  have HC : Hid (∀ q : TP, rootB (A, B) n q = decide (ptx (powT q n) = ptx (red (A, B)))) := fun q => rfl
  generalize tx (red (A, B)).1 = ra at *
  generalize tx (red (A, B)).2 = rb at *
  generalize ptx (red (A, B)) = goal at *
  clear hq
  have HBh : Hid (A.carets ≤ 8) := by show _ ≤ _; omega
  have HBh2 : Hid (B.carets ≤ 8) := hB
  have X0 := Lib.hid ((Ext.refl w).alloc (.cells #[.string (tx A), .string (tx B)] 28))
  have B0 : Hid ((w.alloc (.cells #[.string (tx A), .string (tx B)] 28)).heap[w.heap.size]? = some (.cells #[.string (tx A), .string (tx B)] 28)) := heap_alloc_new w _
  obtain ⟨c0, c1⟩ := cells_of B0.out
  generalize (smallP 3).filter (rootB (A, B) n) = F at *
  generalize tps F = TF at *
  generalize smallP 3 = R at *
  generalize hxa : tx A = xa at *
  generalize hxb : tx B = xb at *
  clear hc hB
  go_enter Try.func28, Try.ntmps28
  go_wp2_with fail
  generalize w.alloc (.cells #[.string xa, .string xb] 28) = W at *
  refine (CG.out _).mono ?_
  rintro e w1 ⟨rfl, x1⟩
  have c0 := x1.cell c0
  have c1 := x1.cell c1
  have X1 := Lib.hid (X0.out.trans x1)
  clear x1
  go_wp2_with fail
  refine (CI.out _).mono ?_
  rintro e w0 ⟨rfl, rfl⟩
  go_wp2_with fail
  refine (CR.out _).mono ?_
  rintro e w8 ⟨rfl, x8⟩
  have X1 := Lib.hid (X1.out.trans x8)
  clear x8
  go_wp2_with fail
  refine (CX.out _).mono ?_
  rintro e w9 ⟨rfl, x9⟩
  have X1 := Lib.hid (X1.out.trans x9)
  clear x9 c0 c1
  go_wp2_with fail
  refine (CT.out _).mono ?_
  rintro e wA ⟨v1, rfl, o1, xA⟩
  obtain ⟨A1, n1, rfl⟩ := row_form o1
  have O1 := Lib.hid o1
  have XA := Lib.hid (X1.out.trans xA)
  clear o1 xA
  have lr := LR.out
  go_wp2_with fail
  go_loopw [25, 7] (fun i v wr => ∃ q : Nat, q ≤ R.length ∧ i = .int .i64 q ∧ Hid (wr.ownsRow wA.heap.size 28 2 v (fil (rootB (A, B) n) R q).length (psP (fil (rootB (A, B) n) R q))) ∧ Hid (Ext wA wr)) (fun i _ _ => R.length - (intOf i).toNat)
  case atStart => exact ⟨0, Nat.zero_le _, rfl, World.ownsRow_nil _ _ _ _, Ext.refl _⟩
  case round =>
    obtain ⟨q, hq, rfl, HO, HX⟩ := hrel
    generalize wr = wq at *
    by_cases hql : q < R.length
    · have q0 : (0 : Int) ≤ q := by omega
      have q1 : (q : Int) < R.length := by omega
      obtain ⟨g, cap, e1, hcs⟩ := new_slice_cell O1.out (by omega)
      injection e1 with e2 e4 e3
      subst e2 e3
      clear e4
      have hg : R[q]? = some R[q] := List.getElem?_eq_getElem hql
      obtain ⟨g0, g1⟩ := psP_get R q _ hg
      have d0 := HX.out.cell (hcs _ _ g0)
      have d1 := HX.out.cell (hcs _ _ g1)
      have FS := Lib.hid (fil_step (rootB (A, B) n) R q _ hg)
      have FL := Lib.hid (fil_length (rootB (A, B) n) R q)
      have hp := PM.out _ (List.getElem_mem hql)
      obtain ⟨fa, fb, fa0, fb0, TM, TX⟩ : ∃ fa fb : Nat → ByteArray, fa 0 = tx .leaf ∧ fb 0 = tx .leaf ∧
          (∀ j, j ≤ 4 → ∀ W, Calls Try.prog 47 #[.agg #[.string (fa j), .string (fb j)], .agg #[.string (tx R[q].1), .string (tx R[q].2)]] W fun e w' => e = .returned (.agg #[.string (fa (j + 1)), .string (fb (j + 1))]) ∧ Ext W w') ∧
          (∀ W, Calls Try.prog 46 #[.agg #[.string (fa n), .string (fb n)]] W fun e w' => e = .returned (.string (ptx (powT R[q] n))) ∧ Ext W w') :=
        ⟨fun j => tx (powT R[q] j).1, fun j => tx (powT R[q] j).2, rfl, rfl, fun j hj W => CM.out R[q].1 R[q].2 hp.1 hp.2 j hj W, fun W => prText_calls (powT R[q] n).1 (powT R[q] n).2 (by have := powT_carets hp.1 hp.2 n; omega) (by have := powT_carets hp.1 hp.2 n; omega) W⟩
      have TM := Lib.hid TM
      have TX := Lib.hid TX
      have HCq : Hid (rootB (A, B) n R[q] = decide (ptx (powT R[q] n) = goal)) := HC.out _
      have EM : Hid (∀ l : List TP, psP l ++ [.string (tx R[q].1), .string (tx R[q].2)] = psP (l ++ [R[q]])) := fun l => by rw [psP_append]; rfl
      have FA0 := Lib.hid fa0
      have FB0 := Lib.hid fb0
      clear fa0 fb0 hp
      generalize ptx (powT R[q] n) = zn at *
      generalize R[q] = pq at *
      generalize tx pq.1 = xc at *
      generalize tx pq.2 = xd at *
      have hnew := heap_alloc_new wq (.cells #[.string xc, .string xd] 28)
      obtain ⟨e0, e1⟩ := cells_of hnew
      have XQ := Lib.hid ((Ext.refl wq).alloc (.cells #[.string xc, .string xd] 28))
      clear hnew
      go_wp2_with fail
      generalize wq.alloc (.cells #[.string xc, .string xd] 28) = wb at *
      refine (CU.out _).mono ?_
      rintro e w3 ⟨rfl, x3⟩
      have e0 := x3.cell e0
      have e1 := x3.cell e1
      have XQ := Lib.hid (XQ.out.trans x3)
      clear x3
      rw [show (Value.string (tx .leaf)) = .string (fa 0) from by rw [FA0.out]]
      have BP : Hid ((w3.alloc (.cells #[.string (fa 0), .string (fa 0)] 28)).heap[w3.heap.size]? = some (.cells #[.string (fa 0), .string (fb 0)] 28)) := by
        rw [FB0.out, ← FA0.out]; exact heap_alloc_new w3 _
      have XP := Lib.hid ((Ext.refl w3).alloc (.cells #[.string (fa 0), .string (fa 0)] 28))
      go_wp2_with fail
      generalize w3.alloc (.cells #[.string (fa 0), .string (fa 0)] 28) = wp at *
      go_loopw [11] (fun i wr => ∃ j : Nat, j ≤ n ∧ i = .int .i64 j ∧ Hid (wr.heap[w3.heap.size]? = some (.cells #[.string (fa j), .string (fb j)] 28)) ∧ Hid (Ext w3 wr)) (fun i _ => n - (intOf i).toNat)
      case atStart => exact ⟨0, Nat.zero_le _, rfl, BP.out, XP.out⟩
      case round =>
        obtain ⟨j, hj, rfl, HB, HY⟩ := hrel
        generalize wr = wj at *
        have j0 : (0 : Int) ≤ j := by omega
        obtain ⟨p0, p1⟩ := cells_of HB.out
        have e0 := HY.out.cell e0
        have e1 := HY.out.cell e1
        by_cases hjn : j < n
        · have j1 : (j : Int) < n := by omega
          have C1 := Lib.hid (TM.out j (by omega))
          have T0 : Two wj w3.heap.size 28 := ⟨_, _, HB.out⟩
          have T0 := Lib.hid T0
          go_wp2_with fail
          refine (C1.out _).mono ?_
          rintro e w4 ⟨rfl, x4⟩
          have T1 := T0.out.ext x4
          obtain ⟨u, v, k0, k1, f0, f1⟩ := T1.facts
          have HH := Lib.hid (set2_heap T1 (.string (fa (j + 1))) (.string (fb (j + 1))))
          have XX := Lib.hid ((HY.out.trans x4).set2 (g := w3.heap.size) (Nat.le_refl _) (.string (fa (j + 1))) (.string (fb (j + 1))))
          clear T1 x4 p0 p1 e0 e1
          go_wp2_with fail
          exact ⟨⟨j + 1, by omega, by go_num, HH.out, XX.out⟩, by simp [intOf]; omega⟩
        · have j1 : (n : Int) ≤ j := by omega
          obtain rfl : j = n := by omega
          go_wp2_with fail
          refine (TX.out _).mono ?_
          rintro e w6 ⟨rfl, x6⟩
          have XW := Lib.hid (HX.out.trans ((XQ.out.trans HY.out).trans x6))
          have O6 := row_ext HO.out ((XQ.out.trans HY.out).trans x6)
          have e0 := x6.cell e0
          have e1 := x6.cell e1
          have FL2 := FL.out
          have lr2 := LR.out
          clear x6 p0 p1 d0 d1
          generalize fil (rootB (A, B) j) R q = Fq at *
          by_cases hz : zn = goal
          · have hk : rootB (A, B) j pq = true := by rw [HCq.out]; exact decide_eq_true hz
            rw [hk] at FS
            have EE : Hid (psP Fq ++ [.string xc, .string xd] = psP (fil (rootB (A, B) j) R (q + 1))) := by show _ = _; rw [FS.out, EM.out]; rfl
            have EN : Hid (Fq.length + 1 = (fil (rootB (A, B) j) R (q + 1)).length) := by show _ = _; rw [FS.out, List.length_append]; rfl
            subst hz
            have zz : (zn.toList == zn.toList) = true := by simp
            have O7 := row_ext O6 ((Ext.refl w6).alloc (.cells #[.string xc, .string xd] 28))
            have X7 := XW.out.alloc (.cells #[.string xc, .string xd] 28)
            have B7 := Lib.hid X7.size
            go_wp2_with (at_builtin; refine wpList_appK rfl (.tmp 42) (.tmp 44) 38 rfl wA.heap.size 28 _ 2 32 Try.underlying38 infoPr2 rfl (by omega) _ Fq.length 1 1 _ _ [.string xc, .string xd] rfl rfl O7 rfl (new_cells w6 #[.string xc, .string xd] _) (by simp [Value.oneCell']) (by unfold maxLen; omega) (by omega) B7.out ?_; intro v8 w8 o8 g8 q8)
            have X8 := Lib.hid (X7.grown g8 (fun k hk => (World.ownsRow.lt O7 k hk).1))
            rw [EE.out, EN.out] at o8
            have O8 := Lib.hid o8
            clear o8 g8 q8 O7 X7 O6
            go_wp2_with fail
            exact ⟨⟨q + 1, by omega, by go_num, O8.out, X8.out⟩, by simp [intOf]; omega⟩
          · have hk : rootB (A, B) j pq = false := by rw [HCq.out]; exact decide_eq_false hz
            rw [hk] at FS
            have EE : Hid (Fq = fil (rootB (A, B) j) R (q + 1)) := by show _ = _; rw [FS.out]; simp
            rw [EE.out] at O6
            have O8 := Lib.hid O6
            have zz : (zn.toList == goal.toList) = false := by
              cases h : (zn.toList == goal.toList) with
              | false => rfl
              | true => exact absurd (ba_ext (eq_of_beq h)) hz
            go_wp2_with fail
            exact ⟨⟨q + 1, by omega, by go_num, O8.out, XW.out⟩, by simp [intOf]; omega⟩
    · have q1 : (R.length : Int) ≤ q := by omega
      obtain rfl : q = R.length := by omega
      have O5 := HO.out
      rw [EF.out] at O5
      have O5 := Lib.hid O5
      have X5 := Lib.hid (XA.out.trans HX.out)
      have O6 := Lib.hid (row_mono O5.out XA.out.size)
      go_wp2_with fail
      go_ret2
      exact ⟨_, rfl, (by rw [EL.out, EP.out]; exact O6.out), X5.out⟩
end Go.Proofs.Ytfjhecilkeikiaa.N
/- RootsOf: the program's. -/
namespace Go.Proofs.Ytfjhecilkeikiaa.N
open Go.RowKit
set_option linter.unusedVariables false
set_option linter.unusedSimpArgs false

set_option maxHeartbeats 6400000 in
set_option maxRecDepth 100000 in
theorem implRO_yes (A B : Tr) (hc : A.carets = B.carets) (hB : B.carets ≤ 8) (n : Nat) (hn2 : 2 ≤ n) (hn : n ≤ 4) (w : World) : Calls Try.prog 29 #[.agg #[.string (tx A), .string (tx B)], .int .i64 n] w (GivesPS w (tps ((smallP 3).filter (rootB (A, B) n))) true) := by
  have CT := Lib.hid (small_calls 3 (by omega))
  have CG := Lib.hid (fun W => pairOf_yes A B hc hB W)
  have PM : Hid (∀ q ∈ smallP 3, q.1.carets = q.2.carets ∧ q.2.carets ≤ 3) := fun q hq => by
    obtain ⟨k, h1, h2, h3, _⟩ := smallP_mem hq
    omega
  have EL : Hid ((tps ((smallP 3).filter (rootB (A, B) n))).length = ((smallP 3).filter (rootB (A, B) n)).length) := tps_length _
  have EP : Hid (psT (tps ((smallP 3).filter (rootB (A, B) n))) = psP ((smallP 3).filter (rootB (A, B) n))) := rfl
  have LR : Hid ((smallP 3).length ≤ 784) := Nat.le_trans (smallP_le (3 + 1) (by omega)) (by omega)
  have EF : Hid (fil (rootB (A, B) n) (smallP 3) (smallP 3).length = (smallP 3).filter (rootB (A, B) n)) := by show _ = _; unfold fil; rw [List.take_length]
  have CM := Lib.hid (fun (C D : Tr) (h1 : C.carets = D.carets) (h2 : D.carets ≤ 3) (j : Nat) (hj : j ≤ 4) sa sb pc pd W ra rb rc rd => times_calls (powT (C, D) j).1 (powT (C, D) j).2 C D (powT_carets (q := (C, D)) h1 h2 j).1 h1 (by have := (powT_carets (q := (C, D)) h1 h2 j).2; omega) (by omega) sa sb pc pd W ra rb rc rd)
  have CR := Lib.hid (fun pa pb W (h : Rep W A pa) (h2 : Rep W B pb) => reduced_calls A B (by omega) (by omega) pa pb W h h2)
  have hq : (red (A, B)).1.carets ≤ 8 ∧ (red (A, B)).2.carets ≤ 8 := by have := red_le (A, B); simp only at this; exact ⟨by omega, by omega⟩
  have CX := Lib.hid (fun ya yb W (ha : Rep W (red (A, B)).1 ya) (hb : Rep W (red (A, B)).2 yb) => ptext_calls (red (A, B)).1 (red (A, B)).2 (by omega) (by omega) ya yb W ha hb)
  rw [show ((red (A, B)).1, (red (A, B)).2) = red (A, B) from rfl] at CX
  have HC : Hid (∀ q : TP, rootB (A, B) n q = decide (ptx (powT q n) = ptx (red (A, B)))) := fun q => rfl
  generalize ptx (red (A, B)) = goal at *
  clear hq
  have HBh : Hid (A.carets ≤ 8) := by show _ ≤ _; omega
  have HBh2 : Hid (B.carets ≤ 8) := hB
  have n0 : ¬ ((n : Int) < 2) := by omega
  have n3 : ¬ ((4 : Int) < n) := by omega
  have n33 : (2 : Int) ≤ n ∧ (n : Int) ≤ 4 := by omega
  have X0 := Lib.hid ((Ext.refl w).alloc (.cells #[.string (tx A), .string (tx B)] 28))
  generalize (smallP 3).filter (rootB (A, B) n) = F at *
  generalize tps F = TF at *
  generalize smallP 3 = R at *
  generalize hxa : tx A = xa at *
  generalize hxb : tx B = xb at *
  clear hc hB
  go_enter Try.func29, Try.ntmps29
  go_wp2_with fail
  generalize w.alloc (.cells #[.string xa, .string xb] 28) = W at *
  refine (CG.out _).mono ?_
  rintro e w1 ⟨pa, pb, rfl, ra, rb, x1⟩
  have XB := (Ext.refl w1).alloc (.cells #[.pointer pa, .pointer pb] 48)
  have RA := Lib.hid (ra.ext XB)
  have RB := Lib.hid (rb.ext XB)
  have B1 : Hid ((w1.alloc (.cells #[.pointer pa, .pointer pb] 48)).heap[w1.heap.size]? = some (.cells #[.pointer pa, .pointer pb] 48)) := heap_alloc_new w1 _
  have X1 := Lib.hid ((X0.out.trans x1).trans XB)
  clear x1 XB ra rb
  obtain ⟨k0, k1⟩ := cells_of B1.out
  go_wp2_with fail
  generalize w1.alloc (.cells #[.pointer pa, .pointer pb] 48) = wm at *
  refine (CR.out pa pb _ RA.out RB.out).mono ?_
  rintro e w8 ⟨r1, r2, rfl, hr1, hr2, x8⟩
  have X1 := Lib.hid (X1.out.trans x8)
  clear x8 k0 k1
  go_wp2_with fail
  refine (CX.out _ _ _ hr1 hr2).mono ?_
  rintro e w9 ⟨rfl, x9⟩
  have X1 := Lib.hid (X1.out.trans x9)
  clear x9 hr1 hr2
  go_wp2_with fail
  refine (CT.out _).mono ?_
  rintro e wA ⟨v1, rfl, o1, xA⟩
  obtain ⟨A1, n1, rfl⟩ := row_form o1
  have O1 := Lib.hid o1
  have XA := Lib.hid (X1.out.trans xA)
  clear o1 xA
  have lr := LR.out
  go_wp2_with fail
  go_loopw [35, 9] (fun i v wr => ∃ q : Nat, q ≤ R.length ∧ i = .int .i64 q ∧ Hid (wr.ownsRow wA.heap.size 28 2 v (fil (rootB (A, B) n) R q).length (psP (fil (rootB (A, B) n) R q))) ∧ Hid (Ext wA wr)) (fun i _ _ => R.length - (intOf i).toNat)
  case atStart => exact ⟨0, Nat.zero_le _, rfl, World.ownsRow_nil _ _ _ _, Ext.refl _⟩
  case round =>
    obtain ⟨q, hq, rfl, HO, HX⟩ := hrel
    generalize wr = wq at *
    by_cases hql : q < R.length
    · have q0 : (0 : Int) ≤ q := by omega
      have q1 : (q : Int) < R.length := by omega
      obtain ⟨g, cap, e1, hcs⟩ := new_slice_cell O1.out (by omega)
      injection e1 with e2 e4 e3
      subst e2 e3
      clear e4
      have hg : R[q]? = some R[q] := List.getElem?_eq_getElem hql
      obtain ⟨g0, g1⟩ := psP_get R q _ hg
      have d0 := HX.out.cell (hcs _ _ g0)
      have d1 := HX.out.cell (hcs _ _ g1)
      have FS := Lib.hid (fil_step (rootB (A, B) n) R q _ hg)
      have FL := Lib.hid (fil_length (rootB (A, B) n) R q)
      have hp := PM.out _ (List.getElem_mem hql)
      obtain ⟨fa, fb, f0, TM, TX⟩ : ∃ fa fb : Nat → Tr, (∀ W, Rep W (fa 0) none ∧ Rep W (fb 0) none) ∧
          (∀ j, j ≤ 4 → ∀ sa sb pc pd W, Rep W (fa j) sa → Rep W (fb j) sb → Rep W R[q].1 pc → Rep W R[q].2 pd → Calls Try.prog 49 #[.agg #[.pointer sa, .pointer sb], .agg #[.pointer pc, .pointer pd]] W (GivesP W (fa (j + 1)) (fb (j + 1)))) ∧
          (∀ ya yb W, Rep W (fa n) ya → Rep W (fb n) yb → Calls Try.prog 50 #[.agg #[.pointer ya, .pointer yb]] W fun e w' => e = .returned (.string (ptx (powT R[q] n))) ∧ Ext W w') :=
        ⟨fun j => (powT R[q] j).1, fun j => (powT R[q] j).2, fun W => ⟨rfl, rfl⟩, fun j hj sa sb pc pd W ra rb rc rd => CM.out R[q].1 R[q].2 hp.1 hp.2 j hj sa sb pc pd W ra rb rc rd,
          fun ya yb W ha hb => ptext_calls (powT R[q] n).1 (powT R[q] n).2 (by have := powT_carets hp.1 hp.2 n; omega) (by have := powT_carets hp.1 hp.2 n; omega) ya yb W ha hb⟩
      have F0 := Lib.hid f0
      have TM := Lib.hid TM
      have TX := Lib.hid TX
      have HCq : Hid (rootB (A, B) n R[q] = decide (ptx (powT R[q] n) = goal)) := HC.out _
      have EM : Hid (∀ l : List TP, psP l ++ [.string (tx R[q].1), .string (tx R[q].2)] = psP (l ++ [R[q]])) := fun l => by rw [psP_append]; rfl
      have CP := Lib.hid (fun W => pairOf_yes R[q].1 R[q].2 hp.1 (by omega) W)
      clear hp f0
      generalize ptx (powT R[q] n) = zn at *
      generalize R[q] = pq at *
      generalize pq.1 = qa at *
      generalize pq.2 = qb at *
      generalize tx qa = xc at *
      generalize tx qb = xd at *
      have hnew := heap_alloc_new wq (.cells #[.string xc, .string xd] 28)
      obtain ⟨e0, e1⟩ := cells_of hnew
      have XQ := (Ext.refl wq).alloc (.cells #[.string xc, .string xd] 28)
      have XQ := Lib.hid XQ
      clear hnew
      go_wp2_with fail
      generalize wq.alloc (.cells #[.string xc, .string xd] 28) = wb0 at *
      refine (CP.out _).mono ?_
      rintro e w9 ⟨pc, pd, rfl, rc, rd, x9⟩
      have e0 := x9.cell e0
      have e1 := x9.cell e1
      have XN := (Ext.refl w9).alloc (.cells #[.pointer pc, .pointer pd] 48)
      have hnew := heap_alloc_new w9 (.cells #[.pointer pc, .pointer pd] 48)
      obtain ⟨y0, y1⟩ := cells_of hnew
      have XM := (Ext.refl (w9.alloc (.cells #[.pointer pc, .pointer pd] 48))).alloc (.cells #[.pointer none, .pointer none] 48)
      have TN := Lib.hid (Two.new (w9.alloc (.cells #[.pointer pc, .pointer pd] 48)) (.pointer none) (.pointer none) 48 (n := w9.heap.size + 1) (Array.size_push _))
      have BN : Hid (((w9.alloc (.cells #[.pointer pc, .pointer pd] 48)).alloc (.cells #[.pointer none, .pointer none] 48)).heap[w9.heap.size + 1]? = some (.cells #[.pointer none, .pointer none] 48)) := by
        have h := heap_alloc_new (w9.alloc (.cells #[.pointer pc, .pointer pd] 48)) (.cells #[.pointer none, .pointer none] 48)
        rw [show (w9.alloc (.cells #[.pointer pc, .pointer pd] 48)).heap.size = w9.heap.size + 1 from Array.size_push _] at h
        exact h
      have X2 := XN.trans XM
      have e0 := X2.cell e0
      have e1 := X2.cell e1
      have y0 := XM.cell y0
      have y1 := XM.cell y1
      have GQ := Lib.hid (XQ.out.trans x9).size
      have XQ := Lib.hid ((XQ.out.trans x9).trans X2)
      have RC := Lib.hid (rc.ext X2)
      have RD := Lib.hid (rd.ext X2)
      have G9 : Hid (wq.heap.size ≠ w9.heap.size + 1) := by show _ ≠ _; have := GQ.out; omega
      clear hnew XN XM X2 rc rd x9
      go_wp2_with fail
      generalize (w9.alloc (.cells #[.pointer pc, .pointer pd] 48)).alloc (.cells #[.pointer none, .pointer none] 48) = wp at *
      have Y0 := Lib.hid (And.intro (And.intro e0 e1) (And.intro y0 y1))
      have HQ9 : Hid (∀ W, (W.heap[w9.heap.size]? = wp.heap[w9.heap.size]? ∧ W.heap[wq.heap.size]? = wp.heap[wq.heap.size]?) ∧ Ext wq W → w9.heap.size < W.heap.size ∧ wq.heap.size < W.heap.size) := fun W h => ⟨World.block_lt_of_cell? W ⟨w9.heap.size, 0, none⟩ ((World.cell?_of_block (a := ⟨w9.heap.size, 0, none⟩) h.1.1).trans y0), World.block_lt_of_cell? W ⟨wq.heap.size, 0, none⟩ ((World.cell?_of_block (a := ⟨wq.heap.size, 0, none⟩) h.1.2).trans e0)⟩
      clear e0 e1 y0 y1
      go_loopw [45] (fun i wr => ∃ j : Nat, j ≤ n ∧ i = .int .i64 j ∧ ∃ sa sb, Hid (wr.heap[w9.heap.size + 1]? = some (.cells #[.pointer sa, .pointer sb] 48)) ∧ Hid (Rep wr (fa j) sa) ∧ Hid (Rep wr (fb j) sb) ∧ Hid (wr.heap[w9.heap.size]? = wp.heap[w9.heap.size]? ∧ wr.heap[wq.heap.size]? = wp.heap[wq.heap.size]?) ∧ Hid (Ext wq wr) ∧ Hid (Rep wr qa pc) ∧ Hid (Rep wr qb pd)) (fun i _ => n - (intOf i).toNat)
      case atStart => exact ⟨0, Nat.zero_le _, rfl, none, none, BN.out, (F0.out _).1, (F0.out _).2, ⟨rfl, rfl⟩, XQ.out, RC.out, RD.out⟩
      case round =>
        obtain ⟨j, hj, rfl, sa, sb, HB, HA1, HB1, HS, HY, HRC, HRD⟩ := hrel
        generalize wr = wj at *
        have j0 : (0 : Int) ≤ j := by omega
        obtain ⟨p0, p1⟩ := cells_of HB.out
        have y0 := (World.cell?_of_block (a := ⟨w9.heap.size, 0, none⟩) HS.out.1).trans Y0.out.2.1
        have y1 := (World.cell?_of_block (a := ⟨w9.heap.size, 1, none⟩) HS.out.1).trans Y0.out.2.2
        by_cases hjn : j < n
        · have j1 : (j : Int) < n := by omega
          have C1 := Lib.hid (TM.out j (by have := n33; omega) sa sb pc pd wj HA1.out HB1.out HRC.out HRD.out)
          have T0 : Two wj (w9.heap.size + 1) 48 := ⟨_, _, HB.out⟩
          have T0 := Lib.hid T0
          go_wp2_with fail
          refine (C1.out).mono ?_
          rintro e w4 ⟨s1, s2, rfl, r1', r2', x4⟩
          have T1 := T0.out.ext x4
          obtain ⟨u, v, k0, k1, f0, f1⟩ := T1.facts
          have HH := Lib.hid (set2_heap T1 (.pointer s1) (.pointer s2))
          have Q1 := Lib.hid (Rep.set2 T1 (by decide) (.pointer s1) (.pointer s2) r1')
          have Q2 := Lib.hid (Rep.set2 T1 (by decide) (.pointer s1) (.pointer s2) r2')
          have Q3 := Lib.hid (Rep.set2 T1 (by decide) (.pointer s1) (.pointer s2) (HRC.out.ext x4))
          have Q4 := Lib.hid (Rep.set2 T1 (by decide) (.pointer s1) (.pointer s2) (HRD.out.ext x4))
          have XX := Lib.hid ((HY.out.trans x4).set2 (g := w9.heap.size + 1) (by have := GQ.out; omega) (.pointer s1) (.pointer s2))
          have B1' := x4.block w9.heap.size (HQ9.out wj (And.intro HS.out HY.out)).1
          have B2' := x4.block wq.heap.size (HQ9.out wj (And.intro HS.out HY.out)).2
          have SS := Lib.hid (And.intro ((set2_other (w := w4) (g := w9.heap.size + 1) (k := w9.heap.size) (by omega) (.pointer s1) (.pointer s2)).trans (B1'.trans HS.out.1)) ((set2_other (w := w4) (g := w9.heap.size + 1) (k := wq.heap.size) G9.out (.pointer s1) (.pointer s2)).trans (B2'.trans HS.out.2)))
          clear T1 x4 p0 p1 y0 y1 r1' r2' B1' B2'
          go_wp2_with fail
          exact ⟨⟨j + 1, by omega, by go_num, s1, s2, HH.out, Q1.out, Q2.out, SS.out, XX.out, Q3.out, Q4.out⟩, by simp [intOf]; omega⟩
        · have j1 : (n : Int) ≤ j := by omega
          obtain rfl : j = n := by omega
          have C1 := Lib.hid (TX.out sa sb wj HA1.out HB1.out)
          go_wp2_with fail
          refine (C1.out).mono ?_
          rintro e w6 ⟨rfl, x6⟩
          have XW := Lib.hid (HX.out.trans (HY.out.trans x6))
          have O6 := row_ext HO.out (HY.out.trans x6)
          have e0 := x6.cell ((World.cell?_of_block (a := ⟨wq.heap.size, 0, none⟩) HS.out.2).trans Y0.out.1.1)
          have e1 := x6.cell ((World.cell?_of_block (a := ⟨wq.heap.size, 1, none⟩) HS.out.2).trans Y0.out.1.2)
          have FL2 := FL.out
          have lr2 := LR.out
          clear x6 p0 p1 d0 d1 y0 y1
          generalize fil (rootB (A, B) j) R q = Fq at *
          by_cases hz : zn = goal
          · have hk : rootB (A, B) j pq = true := by rw [HCq.out]; exact decide_eq_true hz
            rw [hk] at FS
            have EE : Hid (psP Fq ++ [.string xc, .string xd] = psP (fil (rootB (A, B) j) R (q + 1))) := by show _ = _; rw [FS.out, EM.out]; rfl
            have EN : Hid (Fq.length + 1 = (fil (rootB (A, B) j) R (q + 1)).length) := by show _ = _; rw [FS.out, List.length_append]; rfl
            subst hz
            have zz : (zn.toList == zn.toList) = true := by simp
            have O7 := row_ext O6 ((Ext.refl w6).alloc (.cells #[.string xc, .string xd] 28))
            have X7 := XW.out.alloc (.cells #[.string xc, .string xd] 28)
            have B7 := Lib.hid X7.size
            go_wp2_with (at_builtin; refine wpList_appK rfl (.tmp 55) (.tmp 57) 38 rfl wA.heap.size 28 _ 2 32 Try.underlying38 infoPr2 rfl (by omega) _ Fq.length 1 1 _ _ [.string xc, .string xd] rfl rfl O7 rfl (new_cells w6 #[.string xc, .string xd] _) (by simp [Value.oneCell']) (by unfold maxLen; omega) (by omega) B7.out ?_; intro v8 w8 o8 g8 q8)
            have X8 := Lib.hid (X7.grown g8 (fun k hk => (World.ownsRow.lt O7 k hk).1))
            rw [EE.out, EN.out] at o8
            have O8 := Lib.hid o8
            clear o8 g8 q8 O7 X7 O6
            go_wp2_with fail
            exact ⟨⟨q + 1, by omega, by go_num, O8.out, X8.out⟩, by simp [intOf]; omega⟩
          · have hk : rootB (A, B) j pq = false := by rw [HCq.out]; exact decide_eq_false hz
            rw [hk] at FS
            have EE : Hid (Fq = fil (rootB (A, B) j) R (q + 1)) := by show _ = _; rw [FS.out]; simp
            rw [EE.out] at O6
            have O8 := Lib.hid O6
            have zz : (zn.toList == goal.toList) = false := by
              cases h : (zn.toList == goal.toList) with
              | false => rfl
              | true => exact absurd (ba_ext (eq_of_beq h)) hz
            go_wp2_with fail
            exact ⟨⟨q + 1, by omega, by go_num, O8.out, XW.out⟩, by simp [intOf]; omega⟩
    · have q1 : (R.length : Int) ≤ q := by omega
      obtain rfl : q = R.length := by omega
      have O5 := HO.out
      rw [EF.out] at O5
      have O5 := Lib.hid O5
      have X5 := Lib.hid (XA.out.trans HX.out)
      have O6 := Lib.hid (row_mono O5.out XA.out.size)
      go_wp2_with fail
      go_ret2
      exact ⟨_, rfl, (by rw [EL.out, EP.out]; exact O6.out), X5.out⟩
end Go.Proofs.Ytfjhecilkeikiaa.N
