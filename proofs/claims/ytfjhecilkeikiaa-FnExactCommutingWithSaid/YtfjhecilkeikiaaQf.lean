import Derived.Test.YtfjhecilkeikiaaBa
import Derived.Test.YtfjhecilkeikiaaPu
import Derived.Test.YtfjhecilkeikiaaSl
import Derived.Test.YtfjhecilkeikiaaProg
import Derived.Test.YtfjhecilkeikiaaWl
import Derived.Test.YtfjhecilkeikiaaWp
import Derived.Test.YtfjhecilkeikiaaWt
import Derived.Test.YtfjhecilkeikiaaT3
import Derived.Test.YtfjhecilkeikiaaTs
import Derived.Test.YtfjhecilkeikiaaTn
import Derived.Test.YtfjhecilkeikiaaTr
import Derived.Test.YtfjhecilkeikiaaTu
import Derived.Test.YtfjhecilkeikiaaTj
import Derived.Test.YtfjhecilkeikiaaTk
import Derived.Test.YtfjhecilkeikiaaSj
import Derived.Test.YtfjhecilkeikiaaPh
import Derived.Test.YtfjhecilkeikiaaSy
import Derived.Test.YtfjhecilkeikiaaSz
import Derived.Test.YtfjhecilkeikiaaSx
import Derived.Test.YtfjhecilkeikiaaPp
import Derived.Test.YtfjhecilkeikiaaPn
import Derived.Test.YtfjhecilkeikiaaVt
import Derived.Test.YtfjhecilkeikiaaSr
import Derived.Test.YtfjhecilkeikiaaQl
import Derived.Test.YtfjhecilkeikiaaPt
import Derived.Test.YtfjhecilkeikiaaQp
import Derived.Test.YtfjhecilkeikiaaQs
import Derived.Test.YtfjhecilkeikiaaQn
import Derived.Test.YtfjhecilkeikiaaQw
import Derived.Test.YtfjhecilkeikiaaQt
import Derived.Test.YtfjhecilkeikiaaQq
import Derived.Test.YtfjhecilkeikiaaQr
import Derived.Test.YtfjhecilkeikiaaQx
import Derived.Test.YtfjhecilkeikiaaQy
import Derived.Test.YtfjhecilkeikiaaQu
import Derived.Test.YtfjhecilkeikiaaSq
import Derived.Test.YtfjhecilkeikiaaQb
import Derived.Test.YtfjhecilkeikiaaQe
import Derived.Deep.LoopGhost
import Derived.Deep.RegionHeld3
import Derived.Deep.QuietTactic
import Derived.BigQuiet
/- CommutingWith: the program's. -/
namespace Go.Proofs.Ytfjhecilkeikiaa.N
open Go.RowKit
set_option linter.unusedVariables false
set_option linter.unusedSimpArgs false

set_option maxHeartbeats 6400000 in
set_option maxRecDepth 100000 in
theorem implCW_yes (A B : Tr) (hc : A.carets = B.carets) (hB : B.carets ≤ 8) (n : Nat) (hn : n ≤ 3) (w : World) : Calls Try.prog 27 #[.agg #[.string (tx A), .string (tx B)], .int .i64 n] w (GivesPS w (tps ((smallP n).filter (comm (A, B)))) true) := by
  have CT := Lib.hid (small_calls n hn)
  have CG := Lib.hid (fun W => pairOf_yes A B hc hB W)
  have PM : Hid (∀ q ∈ smallP n, q.1.carets = q.2.carets ∧ q.2.carets ≤ 3) := fun q hq => by
    obtain ⟨k, h1, h2, h3, _⟩ := smallP_mem hq
    omega
  have EL : Hid ((tps ((smallP n).filter (comm (A, B)))).length = ((smallP n).filter (comm (A, B))).length) := tps_length _
  have EP : Hid (psT (tps ((smallP n).filter (comm (A, B)))) = psP ((smallP n).filter (comm (A, B)))) := rfl
  have LR : Hid ((smallP n).length ≤ 784) := Nat.le_trans (smallP_le (n + 1) (by omega)) (by omega)
  have EF : Hid (fil (comm (A, B)) (smallP n) (smallP n).length = (smallP n).filter (comm (A, B))) := by show _ = _; unfold fil; rw [List.take_length]
  have CM := Lib.hid (fun (C D : Tr) (h1 : C.carets = D.carets) (h2 : D.carets ≤ 3) => (⟨fun pa pb pc pd W ra rb rc rd => times_calls A B C D hc h1 (by omega) (by omega) pa pb pc pd W ra rb rc rd, fun pa pb pc pd W ra rb rc rd => times_calls C D A B h1 hc (by omega) (by omega) pc pd pa pb W rc rd ra rb,
      (mul_carets (p := (A, B)) (q := (C, D)) hc h1), (mul_carets (p := (C, D)) (q := (A, B)) h1 hc)⟩ : (∀ pa pb pc pd W, _ → _ → _ → _ → _) ∧ (∀ pa pb pc pd W, _ → _ → _ → _ → _) ∧ _ ∧ _))
  have HBh : Hid (A.carets ≤ 8) := by show _ ≤ _; omega
  have HBh2 : Hid (B.carets ≤ 8) := hB
  have n0 : ¬ ((n : Int) < 0) := by omega
  have n3 : ¬ ((3 : Int) < n) := by omega
  have n33 : (n : Int) ≤ 3 := by omega
  have X0 := Lib.hid ((Ext.refl w).alloc (.cells #[.string (tx A), .string (tx B)] 28))
  generalize (smallP n).filter (comm (A, B)) = F at *
  generalize tps F = TF at *
  generalize smallP n = R at *
  generalize hxa : tx A = xa at *
  generalize hxb : tx B = xb at *
  clear hc hB
  go_enter Try.func27, Try.ntmps27
  go_wp2_with fail
  generalize w.alloc (.cells #[.string xa, .string xb] 28) = W at *
  refine (CG.out _).mono ?_
  rintro e w1 ⟨pa, pb, rfl, ra, rb, x1⟩
  have XB := (Ext.refl w1).alloc (.cells #[.pointer pa, .pointer pb] 48)
  have RA := Lib.hid (ra.ext XB)
  have RB := Lib.hid (rb.ext XB)
  have B1 : Hid ((w1.alloc (.cells #[.pointer pa, .pointer pb] 48)).heap[w1.heap.size]? = some (.cells #[.pointer pa, .pointer pb] 48)) := heap_alloc_new w1 _
  have X1 := Lib.hid ((X0.out.trans x1).trans XB)
  clear x1 XB ra rb
  go_wp2_with fail
  generalize w1.alloc (.cells #[.pointer pa, .pointer pb] 48) = wm at *
  refine (CT.out _).mono ?_
  rintro e wA ⟨v1, rfl, o1, xA⟩
  obtain ⟨A1, n1, rfl⟩ := row_form o1
  have O1 := Lib.hid o1
  have XA := Lib.hid (X1.out.trans xA)
  have BA := Lib.hid (xA.at B1.out)
  have RA := Lib.hid (RA.out.ext xA)
  have RB := Lib.hid (RB.out.ext xA)
  clear o1 xA
  have lr := LR.out
  go_wp2_with fail
  go_loopw [31, 8] (fun i v wr => ∃ q : Nat, q ≤ R.length ∧ i = .int .i64 q ∧ Hid (wr.ownsRow wA.heap.size 28 2 v (fil (comm (A, B)) R q).length (psP (fil (comm (A, B)) R q))) ∧ Hid (Ext wA wr)) (fun i _ _ => R.length - (intOf i).toNat)
  case atStart => exact ⟨0, Nat.zero_le _, rfl, World.ownsRow_nil _ _ _ _, Ext.refl _⟩
  case round =>
    obtain ⟨q, hq, rfl, HO, HX⟩ := hrel
    generalize wr = wq at *
    by_cases hql : q < R.length
    · have q0 : (0 : Int) ≤ q := by omega
      have q1 : (q : Int) < R.length := by omega
      obtain ⟨g, cap, e1, hcs⟩ := new_slice_cell O1.out (by omega)
      injection e1 with e2 e4 e3
      subst e2 e3
      clear e4
      have hg : R[q]? = some R[q] := List.getElem?_eq_getElem hql
      obtain ⟨g0, g1⟩ := psP_get R q _ hg
      have d0 := HX.out.cell (hcs _ _ g0)
      have d1 := HX.out.cell (hcs _ _ g1)
      obtain ⟨b0, b1⟩ := cells_of (HX.out.at BA.out)
      have FS := Lib.hid (fil_step (comm (A, B)) R q _ hg)
      have FL := Lib.hid (fil_length (comm (A, B)) R q)
      have hp := PM.out _ (List.getElem_mem hql)
      obtain ⟨T1, T2, m1, m2⟩ := CM.out R[q].1 R[q].2 hp.1 hp.2
      have hA := HBh.out
      have hB := HBh2.out
      have P1 := Lib.hid (fun ya yb W (ha : Rep W (mul (A, B) (R[q].1, R[q].2)).1 ya) (hb : Rep W (mul (A, B) (R[q].1, R[q].2)).2 yb) => ptext_calls (mul (A, B) (R[q].1, R[q].2)).1 (mul (A, B) (R[q].1, R[q].2)).2 (by omega) (by omega) ya yb W ha hb)
      have P2 := Lib.hid (fun ya yb W (ha : Rep W (mul (R[q].1, R[q].2) (A, B)).1 ya) (hb : Rep W (mul (R[q].1, R[q].2) (A, B)).2 yb) => ptext_calls (mul (R[q].1, R[q].2) (A, B)).1 (mul (R[q].1, R[q].2) (A, B)).2 (by omega) (by omega) ya yb W ha hb)
      have T1 := Lib.hid T1
      have T2 := Lib.hid T2
      have HC : Hid (comm (A, B) R[q] = decide (ptx (mul (A, B) (R[q].1, R[q].2)) = ptx (mul (R[q].1, R[q].2) (A, B)))) := rfl
      have EM : Hid (∀ l : List TP, psP l ++ [.string (tx R[q].1), .string (tx R[q].2)] = psP (l ++ [R[q]])) := fun l => by rw [psP_append]; rfl
      have CP := Lib.hid (fun W => pairOf_yes R[q].1 R[q].2 hp.1 (by omega) W)
      generalize mul (A, B) (R[q].1, R[q].2) = u1 at *
      generalize mul (R[q].1, R[q].2) (A, B) = u2 at *
      have p1 : ptx (u1.1, u1.2) = ptx u1 := rfl
      have p2 : ptx (u2.1, u2.2) = ptx u2 := rfl
      rw [p1] at P1
      rw [p2] at P2
      clear p1 p2 m1 m2 hp hA hB
      generalize R[q] = pq at *
      generalize tx pq.1 = xc at *
      generalize tx pq.2 = xd at *
      have hnew := heap_alloc_new wq (.cells #[.string xc, .string xd] 28)
      obtain ⟨e0, e1⟩ := cells_of hnew
      have XQ := (Ext.refl wq).alloc (.cells #[.string xc, .string xd] 28)
      have XQ := Lib.hid XQ
      clear hnew
      go_wp2_with fail
      generalize wq.alloc (.cells #[.string xc, .string xd] 28) = wb0 at *
      refine (CP.out _).mono ?_
      rintro e w9 ⟨pc, pd, rfl, rc, rd, x9⟩
      have e0 := x9.cell e0
      have e1 := x9.cell e1
      have XN := (Ext.refl w9).alloc (.cells #[.pointer pc, .pointer pd] 48)
      have hnew := heap_alloc_new w9 (.cells #[.pointer pc, .pointer pd] 48)
      obtain ⟨y0, y1⟩ := cells_of hnew
      have e0 := XN.cell e0
      have e1 := XN.cell e1
      have XQ2 := (XQ.out.trans x9).trans XN
      have b0 := XQ2.cell b0
      have b1 := XQ2.cell b1
      have RA2 := Lib.hid (RA.out.ext (HX.out.trans XQ2))
      have RB2 := Lib.hid (RB.out.ext (HX.out.trans XQ2))
      have RC2 := Lib.hid (rc.ext XN)
      have RD2 := Lib.hid (rd.ext XN)
      have XQ := Lib.hid XQ2
      clear hnew XN XQ2 rc rd x9
      go_wp2_with fail
      generalize w9.alloc (.cells #[.pointer pc, .pointer pd] 48) = wb at *
      have KX : ∀ w', Ext wb w' → w'.cell? ⟨w1.heap.size, 0, none⟩ = some (.pointer pa) ∧ w'.cell? ⟨w1.heap.size, 1, none⟩ = some (.pointer pb) ∧ w'.cell? ⟨w9.heap.size, 0, none⟩ = some (.pointer pc) ∧ w'.cell? ⟨w9.heap.size, 1, none⟩ = some (.pointer pd) := fun w' h => ⟨h.cell b0, h.cell b1, h.cell y0, h.cell y1⟩
      have T1 := Lib.hid (fun W (h : Ext wb W) => T1.out pa pb pc pd W (RA2.out.ext h) (RB2.out.ext h) (RC2.out.ext h) (RD2.out.ext h))
      have T2 := Lib.hid (fun W (h : Ext wb W) => T2.out pa pb pc pd W (RA2.out.ext h) (RB2.out.ext h) (RC2.out.ext h) (RD2.out.ext h))
      go_region_held3 (fun w' => w'.cell? ⟨w1.heap.size, 0, none⟩ = some (.pointer pa) ∧ w'.cell? ⟨w1.heap.size, 1, none⟩ = some (.pointer pb) ∧ w'.cell? ⟨w9.heap.size, 0, none⟩ = some (.pointer pc) ∧ w'.cell? ⟨w9.heap.size, 1, none⟩ = some (.pointer pd))
        (first | with_reducible exact KX _ (Ext.refl _).drew | with_reducible exact KX _ x3 | with_reducible exact KX _ x4 | with_reducible exact KX _ x5 | with_reducible exact KX _ x6 | fail)
        (first
          | (go_at_call 49; (with_reducible refine (T1.out _ (Ext.refl wb).drew).mono ?_); rintro e w3 ⟨s1, s2, rfl, hr1, hr2, hx3⟩; have x3 := (Ext.refl wb).drew.trans hx3)
          | (go_at_call 50; (with_reducible refine (P1.out _ _ _ hr1 hr2).mono ?_); rintro e w4 ⟨rfl, hx4⟩; have x4 := x3.trans hx4)
          | (go_at_call 49; (with_reducible refine (T2.out _ x4).mono ?_); rintro e w5 ⟨s3, s4, rfl, hr3, hr4, hx5⟩; have x5 := x4.trans hx5)
          | (go_at_call 50; (with_reducible refine (P2.out _ _ _ hr3 hr4).mono ?_); rintro e w6 ⟨rfl, hx6⟩; have x6 := x5.trans hx6)
          | fail)
      have e0 := x6.cell e0
      have e1 := x6.cell e1
      have XW := Lib.hid (HX.out.trans (XQ.out.trans x6))
      have O6 := row_ext HO.out (XQ.out.trans x6)
      have FL2 := FL.out
      have lr2 := LR.out
      clear x3 x4 x5 x6 hx3 hx4 hx5 hx6 KX d0 d1
      generalize fil (comm (A, B)) R q = Fq at *
      by_cases hz : ptx u1 = ptx u2
      · have hk : comm (A, B) pq = true := by rw [HC.out]; exact decide_eq_true hz
        rw [hk] at FS
        have EE : Hid (psP Fq ++ [.string xc, .string xd] = psP (fil (comm (A, B)) R (q + 1))) := by show _ = _; rw [FS.out, EM.out]; rfl
        have EN : Hid (Fq.length + 1 = (fil (comm (A, B)) R (q + 1)).length) := by show _ = _; rw [FS.out, List.length_append]; rfl
        rw [hz]
        have zz : ((ptx u2).toList == (ptx u2).toList) = true := by simp
        rw [zz]
        clear zz
        have O7 := row_ext O6 ((Ext.refl w6).alloc (.cells #[.string xc, .string xd] 28))
        have X7 := XW.out.alloc (.cells #[.string xc, .string xd] 28)
        have B7 := Lib.hid X7.size
        go_wp2_with (at_builtin; refine wpList_appK rfl (.tmp 49) (.tmp 51) 38 rfl wA.heap.size 28 _ 2 32 Try.underlying38 infoPr2 rfl (by omega) _ Fq.length 1 1 _ _ [.string xc, .string xd] rfl rfl O7 rfl (new_cells w6 #[.string xc, .string xd] _) (by simp [Value.oneCell']) (by unfold maxLen; omega) (by omega) B7.out ?_; intro v8 w8 o8 g8 q8)
        have X8 := Lib.hid (X7.grown g8 (fun k hk => (World.ownsRow.lt O7 k hk).1))
        rw [EE.out, EN.out] at o8
        have O8 := Lib.hid o8
        clear o8 g8 q8 O7 X7 O6
        go_wp2_with fail
        exact ⟨⟨q + 1, by omega, by go_num, O8.out, X8.out⟩, by simp [intOf]; omega⟩
      · have hk : comm (A, B) pq = false := by rw [HC.out]; exact decide_eq_false hz
        rw [hk] at FS
        have EE : Hid (Fq = fil (comm (A, B)) R (q + 1)) := by show _ = _; rw [FS.out]; simp
        rw [EE.out] at O6
        have O8 := Lib.hid O6
        have zz : ((ptx u1).toList == (ptx u2).toList) = false := by
          cases h : ((ptx u1).toList == (ptx u2).toList) with
          | false => rfl
          | true => exact absurd (ba_ext (eq_of_beq h)) hz
        rw [zz]
        go_wp2_with fail
        exact ⟨⟨q + 1, by omega, by go_num, O8.out, XW.out⟩, by simp [intOf]; omega⟩
    · have q1 : (R.length : Int) ≤ q := by omega
      obtain rfl : q = R.length := by omega
      have O5 := HO.out
      rw [EF.out] at O5
      have O5 := Lib.hid O5
      have X5 := Lib.hid (XA.out.trans HX.out)
      have O6 := Lib.hid (row_mono O5.out XA.out.size)
      go_wp2_with fail
      go_ret2
      exact ⟨_, rfl, (by rw [EL.out, EP.out]; exact O6.out), X5.out⟩
end Go.Proofs.Ytfjhecilkeikiaa.N
