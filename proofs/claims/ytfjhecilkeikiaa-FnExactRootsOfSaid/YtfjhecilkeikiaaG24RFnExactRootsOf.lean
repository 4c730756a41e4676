import Derived.Test.YtfjhecilkeikiaaG1RFnExactRootsOf
import Derived.Test.YtfjhecilkeikiaaG2RFnExactRootsOf
import Derived.Test.YtfjhecilkeikiaaProg
import Derived.Test.YtfjhecilkeikiaaG6RFnExactRootsOf
import Derived.Test.YtfjhecilkeikiaaG7RFnExactRootsOf
import Derived.Test.YtfjhecilkeikiaaG8RFnExactRootsOf
import Derived.Test.YtfjhecilkeikiaaG5RFnExactRootsOf
import Derived.Test.YtfjhecilkeikiaaG3RFnExactRootsOf
import Derived.Test.YtfjhecilkeikiaaG4RFnExactRootsOf
import Derived.Test.YtfjhecilkeikiaaG12RFnExactRootsOf
import Derived.Test.YtfjhecilkeikiaaG13RFnExactRootsOf
import Derived.Test.YtfjhecilkeikiaaG17RFnExactRootsOf
import Derived.Test.YtfjhecilkeikiaaG14RFnExactRootsOf
import Derived.Test.YtfjhecilkeikiaaG15RFnExactRootsOf
import Derived.Test.YtfjhecilkeikiaaG16RFnExactRootsOf
import Derived.Test.YtfjhecilkeikiaaG18RFnExactRootsOf
import Derived.Test.YtfjhecilkeikiaaG19RFnExactRootsOf
import Derived.Test.YtfjhecilkeikiaaG20RFnExactRootsOf
import Derived.Test.YtfjhecilkeikiaaG23RFnExactRootsOf
import Derived.Deep.LoopGhost
import Derived.Deep.RegionHeld3
import Derived.Deep.QuietTactic
import Derived.BigQuiet
import Derived.StillTailTactics
import Derived.Deep.OwnRows
/- The small reduced pairs, the reference's. -/
namespace Go.Proofs.Ytfjhecilkeikiaa.N
open Go.RowKit
set_option linter.unusedVariables false
set_option linter.unusedSimpArgs false

theorem Reads.strs_cell {w : World} {A : Option Addr} {n c : Nat} {l : List ByteArray} (h : Reads w (.slice A n c) (strs l)) {k : Nat} {s : ByteArray} (hk : l[k]? = some s) : ∃ ad, A = some ad ∧ w.cell? (ad.add k) = some (.string s) := by
  obtain ⟨B, d, e, _, hr⟩ := h
  injection e with e1 e2 e3
  subst e1
  obtain ⟨ad, rfl, hc⟩ := hr (by rw [strs_length]; exact Nat.lt_of_le_of_lt (Nat.zero_le _) (List.getElem?_eq_some_iff.1 hk).1)
  exact ⟨ad, rfl, hc k _ (by simp [strs, hk])⟩
theorem infoPr2 : (Try.prog.info? 28).map (fun i => (i.zero, i.size, i.bytes)) = some (some (.agg #[.string ⟨#[]⟩, .string ⟨#[]⟩]), 2, 32) := by kernel_rfl
set_option maxHeartbeats 12800000 in
set_option maxRecDepth 100000 in
theorem cjSmall_calls (n : Nat) (hn : n ≤ 3) (w : World) : Calls Try.prog 41 #[.int .i64 n] w fun e w' => ∃ v, e = .returned v ∧ w'.ownsRow w.heap.size 28 2 v (smallP n).length (psP (smallP n)) ∧ Ext w w' := by
  have EQ : Hid ((List.range (n + 1)).flatMap prs = smallP n) := rfl
  have nb : (n : Int) ≤ 3 := by omega
  go_enter Try.func41, Try.ntmps41
  go_wp2_with fail
  go_loopw [4, 3] (fun i v wr => ∃ k : Nat, k ≤ n + 1 ∧ i = .int .i64 k ∧ Hid (wr.ownsRow w.heap.size 28 2 v ((List.range k).flatMap prs).length (psP ((List.range k).flatMap prs))) ∧ Hid (Ext w wr)) (fun i _ _ => n + 1 - (intOf i).toNat)
  case atStart => exact ⟨0, Nat.zero_le _, rfl, World.ownsRow_nil _ _ _ _, Ext.refl _⟩
  case round =>
    obtain ⟨k, hk, rfl, HO, HX⟩ := hrel
    generalize wr = wk at *
    by_cases hlt : k < n + 1
    · have k0 : (0 : Int) ≤ k := by omega
      have k1 : (k : Int) ≤ n := by omega
      have CT := Lib.hid (trList_calls k (by omega))
      have ST := Lib.hid (smallP_step k)
      have L1 := Lib.hid (smallP_le k (by omega))
      have L2 := Lib.hid (prs_le k (by omega))
      have K4 : Hid (k ≤ 3) := by show _ ≤ _; omega
      have LA := TL_le k (by omega)
      have CA : Hid (∀ T ∈ TL k, T.carets = k) := TL_carets k
      have ND := Lib.hid (texts_nodup k)
      have TS := Lib.hid (texts_srt k)
      have PM : Hid (∀ p ∈ prs k, p.1.carets = k ∧ p.2.carets = k) := fun p hp => ⟨(prs_mem hp).1, (prs_mem hp).2.1⟩
      generalize (List.range k).flatMap prs = P at *
      generalize TL k = A at *
      obtain ⟨R, hR⟩ : ∃ R, prs k = R := ⟨_, rfl⟩
      rw [hR] at ST L2 TS PM
      clear hR
      go_wp2_with fail
      refine (CT.out _).mono ?_
      rintro e wA ⟨v1, rfl, o1, x1⟩
      obtain ⟨A1, c1, rfl⟩ := o1.txs
      have R1 := Lib.hid o1.reads
      have O1 := Lib.hid (row_ext HO.out x1)
      have XkA := Lib.hid x1
      clear o1 x1
      go_wp2_with fail
      go_loopw [23, 5] (fun i v wr => ∃ i' : Nat, i' ≤ A.length ∧ i = .int .i64 i' ∧ Hid (Own wr wA.heap.size 9 v (strs ((redA (A.take i') A).map ptx))) ∧ Hid (Ext wA wr)) (fun i _ _ => A.length - (intOf i).toNat)
      case atStart => exact ⟨0, Nat.zero_le _, rfl, Own.nil _ _ _, Ext.refl _⟩
      case round =>
        obtain ⟨i, hi, rfl, HT, HY⟩ := hrel
        generalize wr = wi at *
        by_cases hil : i < A.length
        · have h2 : (0 : Int) ≤ i := by omega
          have h3 : (i : Int) < A.length := by omega
          have hg : A[i]? = some A[i] := List.getElem?_eq_getElem hil
          obtain ⟨ad, rfl, ca⟩ := (R1.out.ext HY.out).txs_cell hg
          have RT := Lib.hid (redA_take A A i _ hg)
          have RJ : Hid ((redA (A.take i) A).length ≤ 196) := Nat.le_trans (redA_length _ _) (Nat.le_trans (Nat.mul_le_mul (show (A.take i).length ≤ 14 by rw [List.length_take]; omega) LA) (by decide))
          have TA := CA.out _ (List.getElem_mem hil)
          generalize A[i] = ta at *
          generalize redA (A.take i) A = Q at *
          go_wp2_with fail
          refine (CT.out _).mono ?_
          rintro e w2 ⟨v2, rfl, o2, x2⟩
          have K2 := Lib.hid (Kp.fresh HT.out o2)
          obtain ⟨A2, c2, rfl⟩ := o2.txs
          have T2 := Lib.hid (HT.out.ext x2)
          have Y2 := Lib.hid (HY.out.trans x2)
          clear o2 x2
          go_wp2_with fail
          go_loopw [30, 5] (fun i v wr => ∃ j : Nat, j ≤ A.length ∧ i = .int .i64 j ∧ Hid (Own wr wA.heap.size 9 v (strs ((Q ++ redR ta (A.take j)).map ptx))) ∧ Hid (Ext wA wr) ∧ Hid (Kp wr v (.slice A2 A.length c2) (txs A))) (fun i _ _ => A.length - (intOf i).toNat)
          case atStart => exact ⟨0, Nat.zero_le _, rfl, (by rw [List.take_zero, show redR ta [] = [] from rfl, List.append_nil]; exact T2.out), Y2.out, K2.out⟩
          case round =>
            obtain ⟨j, hj, rfl, HT, HY, HK⟩ := hrel
            generalize wr = wj at *
            by_cases hjl : j < A.length
            · have h4 : (0 : Int) ≤ j := by omega
              have h5 : (j : Int) < A.length := by omega
              have hg2 : A[j]? = some A[j] := List.getElem?_eq_getElem hjl
              obtain ⟨ad2, rfl, cb⟩ := HK.out.1.txs_cell hg2
              have RM := Lib.hid (redR_take ta A j _ hg2)
              have TB := CA.out _ (List.getElem_mem hjl)
              have RN : Hid ((Q ++ redR ta (A.take j)).length ≤ 210) := by
                show _ ≤ _
                rw [List.length_append]
                have := redR_length ta (A.take j)
                rw [List.length_take] at this
                have := RJ.out
                omega
              generalize A[j] = tb at *
              have CB := Lib.hid (fun W => prBoth_calls ta tb (by omega) (by omega) W)
              have CX := Lib.hid (fun W => prText_calls ta tb (by omega) (by omega) W)
              have BL : (bothT ta tb).length ≤ 4 := Nat.le_trans (both_length ta tb) (by omega)
              obtain ⟨QJ, hQJ⟩ : ∃ QJ, Q ++ redR ta (A.take j) = QJ := ⟨_, rfl⟩
              rw [hQJ] at HT RN
              have HQJ := Lib.hid hQJ
              clear hQJ
              generalize hz : ptx (ta, tb) = z at *
              have HZ := Lib.hid hz
              clear hz
              generalize tx ta = xa at *
              generalize tx tb = xb at *
              go_wp2_with fail
              refine (CB.out _).mono ?_
              rintro e w3 ⟨v3, rfl, o3, x3⟩
              have b9 := x3.at (heap_alloc_new wj (.cells #[.string xa, .string xb] 28))
              have Y3 := Lib.hid (((Ext.refl wj).alloc (.cells #[.string xa, .string xb] 28)).trans x3)
              obtain ⟨A3, c3, rfl, _, _⟩ := o3.reads
              obtain ⟨d0, d1⟩ := cells_of b9
              have NL : (nats (bothT ta tb)).length = (bothT ta tb).length := by simp [nats, ints]
              rw [NL]
              clear o3 x3 b9
              cases hb : bothT ta tb with
              | nil =>
                rw [hb] at RM
                have EM : Hid (strs (QJ.map ptx) ++ strs [z] = strs ((Q ++ redR ta (A.take (j + 1))).map ptx)) := by
                  show _ = _
                  rw [strs_append, RM.out, ← List.append_assoc, HQJ.out, List.map_append, ← HZ.out]; rfl
                have LL : Hid (((strs (QJ.map ptx)).length + (strs [z]).length) * 16 ≤ 140737488355328) := by
                  show _ ≤ _
                  rw [strs_length, strs_length, List.length_map]
                  have := RN.out
                  simp only [List.length_singleton]
                  omega
                go_wp2_with fail
                refine (CX.out _).mono ?_
                rintro e w4 ⟨rfl, x4⟩
                have Z4 := Y3.out.trans x4
                have ZA := Z4.alloc (.cells #[.string z] 9)
                have O4 := HT.out.ext ZA
                have X4 := HY.out.trans ZA
                have KB := HK.out.ext ZA
                have R4 := lit_readsS w4 z
                have B4 := Lib.hid X4.size
                go_wp2_with (at_builtin; refine wpList_app rfl (.tmp 41) (.tmp 44) 53 rfl wA.heap.size 9 (.string ⟨#[]⟩) 16 Try.underlying53 infoStr rfl (by omega) _ _ _ (strs [z]) rfl rfl O4 R4 (strs_one _) LL.out B4.out ?_; intro v5 w5 o5 g5 q5)
                have X5 := Lib.hid (X4.grown g5 O4.lo)
                have KB5 := Lib.hid (KB.grown g5 q5)
                rw [EM.out] at o5
                have O5 := Lib.hid o5
                clear o5 g5 q5 O4 X4 KB R4 ZA Z4 x4
                go_wp2_with fail
                exact ⟨⟨j + 1, by omega, by go_num, O5.out, X5.out, KB5.out⟩, by simp [intOf]; omega⟩
              | cons y ys =>
                rw [hb] at RM
                have ER : Hid (QJ = Q ++ redR ta (A.take (j + 1))) := by
                  show _ = _
                  rw [RM.out, ← List.append_assoc, HQJ.out]; simp
                have X5 := Lib.hid (HY.out.trans Y3.out)
                have KB5 := Lib.hid (HK.out.ext Y3.out)
                have O5 := HT.out.ext Y3.out
                rw [ER.out] at O5
                have O5 := Lib.hid O5
                have zl : ((ys.length : Int) + 1 == 0) = false := by simp; omega
                rw [List.length_cons]
                go_wp2_with fail
                exact ⟨⟨j + 1, by omega, by go_num, O5.out, X5.out, KB5.out⟩, by simp [intOf]; omega⟩
            · have h4 : (A.length : Int) ≤ j := by omega
              obtain rfl : j = A.length := by omega
              have O5 := HT.out
              rw [List.take_length, ← RT.out] at O5
              have O5 := Lib.hid O5
              go_wp2_with fail
              exact ⟨⟨i + 1, by omega, by go_num, O5.out, HY.out⟩, by simp [intOf]; omega⟩
        · have h2 : (A.length : Int) ≤ i := by omega
          obtain rfl : i = A.length := by omega
          have O5 := HT.out
          rw [List.take_length] at O5
          have LQ : ((redA A A).map ptx).length ≤ 1000 := by rw [List.length_map]; exact Nat.le_trans (redA_length _ _) (Nat.le_trans (Nat.mul_le_mul LA LA) (by decide))
          have EL : Hid (strs (srt ((redA A A).map ptx)) = strs (R.map ptx)) := by show _ = _; rw [TS.out]
          obtain ⟨⟨A5, c5, e5, hz5, rd5⟩, A6, c6, e6, hc6⟩ := O5.rc
          have hA : A6 = A5 ∧ c6 = c5 := by
            rw [e5] at e6
            injection e6 with e7 e8 e9
            exact ⟨e7.symm, e9.symm⟩
          obtain ⟨rfl, rfl⟩ := hA
          rw [strs_length] at e5 hc6
          subst e5
          have r5 : Reads wi (.slice A6 ((redA A A).map ptx).length c6) (strs ((redA A A).map ptx)) := O5.reads
          have CS := Lib.hid (lnSorted_calls _ ((redA A A).map ptx) rfl LQ ND.out A6 c6 hc6 wi r5)
          rw [EL.out] at CS
          have TBk := Lib.hid O5.block
          have XX := Lib.hid (XkA.out.trans HY.out)
          have OB := Lib.hid (fun k hk => (World.ownsRow.lt HO.out k hk).2)
          clear r5 hz5 rd5 O5
          generalize ((redA A A).map ptx).length = tn at *
          go_wp2_with fail
          refine CS.out.mono ?_
          rintro e w6 ⟨v6, rfl, r6, hb6, x6⟩
          have K6 : Hid (Kp w6 u3 v6 (strs (R.map ptx))) := by
            have hv : ∀ k, v6.ownBlock = some k → wA.heap.size ≤ k ∧ k < w6.heap.size := by
              intro j hj
              rcases hb6 with rfl | h
              · have h1 := TBk.out j hj
                exact ⟨h1.1, Nat.lt_of_lt_of_le h1.2 x6.size⟩
              · have h1 := h j hj
                exact ⟨Nat.le_trans HY.out.size h1.1, h1.2⟩
            refine ⟨r6, fun j hj hj2 => ?_, fun j hj => (hv j hj).2⟩
            have h1 := OB.out j hj
            have h2 := (hv j hj2).1
            have h3 := XkA.out.size
            omega
          obtain ⟨A7, c7, e7, _, _⟩ := r6
          rw [strs_length, List.length_map] at e7
          subst e7
          have O6 := Lib.hid (row_ext HO.out (XX.out.trans x6))
          have X6 := Lib.hid (HX.out.trans (XX.out.trans x6))
          clear hb6 x6
          go_wp2_with fail
          go_loopw [51, 3] (fun i v wr => ∃ q : Nat, q ≤ R.length ∧ i = .int .i64 q ∧ Hid (wr.ownsRow w.heap.size 28 2 v (P ++ R.take q).length (psP (P ++ R.take q))) ∧ Hid (Ext w wr) ∧ Hid (Kp wr v (.slice A7 R.length c7) (strs (R.map ptx)))) (fun i _ _ => R.length - (intOf i).toNat)
          case atStart => exact ⟨0, Nat.zero_le _, rfl, (by rw [List.take_zero, List.append_nil]; exact O6.out), X6.out, K6.out⟩
          case round =>
            obtain ⟨q, hq, rfl, HO, HX, HK⟩ := hrel
            generalize wr = wq at *
            by_cases hql : q < R.length
            · have h4 : (0 : Int) ≤ q := by omega
              have h5 : (q : Int) < R.length := by have := L2.out; omega
              have hg : R[q]? = some R[q] := List.getElem?_eq_getElem hql
              obtain ⟨ad, rfl, cs⟩ := HK.out.1.strs_cell (k := q) (s := ptx R[q]) (by rw [List.getElem?_map, hg]; rfl)
              have hp := PM.out _ (List.getElem_mem hql)
              have CP := Lib.hid (fun W => prParse_calls R[q].1 R[q].2 (by omega) (by have := K4.out; omega) W)
              have EM : Hid (psP (P ++ R.take q) ++ [.string (tx R[q].1), .string (tx R[q].2)] = psP (P ++ R.take (q + 1))) := by
                show _ = _
                rw [List.take_add_one, hg, ← List.append_assoc, psP_append _ (Option.toList _)]; rfl
              have EN : Hid ((P ++ R.take q).length + 1 = (P ++ R.take (q + 1)).length) := by
                show _ = _
                simp only [List.length_append, List.length_take]; omega
              have PL : Hid ((P ++ R.take q).length ≤ 1000) := by
                show _ ≤ _
                rw [List.length_append, List.length_take]
                have := L1.out; have := L2.out; have := K4.out
                omega
              have hz : ptx (R[q].1, R[q].2) = ptx R[q] := rfl
              rw [hz] at CP
              clear hz hp
              generalize ptx R[q] = z at *
              generalize tx R[q].1 = xa at *
              generalize tx R[q].2 = xb at *
              go_wp2_with fail
              refine (CP.out _).mono ?_
              rintro e w7 ⟨rfl, x7⟩
              have Z7 := (x7.alloc (.cells #[.string xa, .string xb] 28)).alloc (.cells #[.string xa, .string xb] 28)
              have O7 := row_ext HO.out Z7
              have X7 := HX.out.trans Z7
              have K7 := HK.out.ext Z7
              have B7 := Lib.hid X7.size
              have pl := PL.out
              have rl : (R.length : Int) ≤ 196 := by have := L2.out; omega
              have NC : ∀ j u, ([.string xa, .string xb] : List Value)[j]? = some u → ((w7.alloc (.cells #[.string xa, .string xb] 28)).alloc (.cells #[.string xa, .string xb] 28)).cell? ((⟨w7.heap.size + 1, 0, none⟩ : Addr).add j) = some u := by
                have h := new_cells (w7.alloc (.cells #[.string xa, .string xb] 28)) #[.string xa, .string xb] 28
                rw [show (w7.alloc (.cells #[.string xa, .string xb] 28)).heap.size = w7.heap.size + 1 from Array.size_push _] at h
                exact h
              have NC := Lib.hid NC
              go_wp2_with (at_builtin; refine wpList_appK rfl (.tmp 60) (.tmp 62) 38 rfl w.heap.size 28 _ 2 32 Try.underlying38 infoPr2 rfl (by omega) _ (P ++ R.take q).length 1 1 _ _ [.string xa, .string xb] rfl rfl O7 rfl NC.out (by simp [Value.oneCell']) (by unfold maxLen; omega) (by omega) B7.out ?_; intro v8 w8 o8 g8 q8)
              have X8 := Lib.hid (X7.grown g8 (fun k hk => (World.ownsRow.lt O7 k hk).1))
              have K8 := Lib.hid (K7.grown g8 q8)
              rw [EM.out, EN.out] at o8
              have O8 := Lib.hid o8
              clear o8 g8 q8 O7 X7 K7 Z7 x7
              go_wp2_with fail
              exact ⟨⟨q + 1, by omega, by go_num, O8.out, X8.out, K8.out⟩, by simp [intOf]; omega⟩
            · have h4 : (R.length : Int) ≤ q := by omega
              obtain rfl : q = R.length := by omega
              have O8 := HO.out
              rw [List.take_length, ← ST.out] at O8
              have O8 := Lib.hid O8
              go_wp2_with fail
              exact ⟨⟨k + 1, by omega, by go_num, O8.out, HX.out⟩, by simp [intOf]; omega⟩
    · have k1 : (n : Int) < k := by omega
      obtain rfl : k = n + 1 := by omega
      have O5 := HO.out
      rw [EQ.out] at O5
      have O5 := Lib.hid O5
      go_wp2_with fail
      go_ret
      exact ⟨_, rfl, O5.out, HX.out⟩
end Go.Proofs.Ytfjhecilkeikiaa.N
/- The laws' helpers over slices of pairs. -/
namespace Go.Proofs.Ytfjhecilkeikiaa.N
open Go.RowKit
set_option linter.unusedVariables false
set_option linter.unusedSimpArgs false

theorem marksS2_step (m k : Nat) (xs : List Value) (hk : k < xs.length) : ((strs (marksS m k)) ++ xs.drop k).set k (.string (mt (m + k))) = (strs (marksS m (k + 1))) ++ xs.drop (k + 1) := by
  have h1 : (strs (marksS m k)).length = k := by rw [strs_length, marksS_length]
  rw [List.set_append_right _ _ (by omega), h1, Nat.sub_self, List.drop_eq_getElem_cons hk, List.set_cons_zero]
  simp [strs, marksS, List.range_succ]

set_option maxHeartbeats 3200000 in
set_option maxRecDepth 100000 in
theorem eqPairS_calls (l : List (ByteArray × ByteArray)) (hn : l.length < 100000000) (b1 b2 : Nat) (va vb : Value) (w : World) (ha : w.ownsRow b1 28 2 va l.length (psT l)) (hb : w.ownsRow b2 28 2 vb l.length (psT l)) :
    Calls Try.prog 23 #[va, vb] w fun e w' => e = .returned (.bool true) ∧ Ext w w' := by
  obtain ⟨A, c, rfl⟩ := row_form ha
  obtain ⟨B, d, rfl⟩ := row_form hb
  have HA := Lib.hid ha
  have HB := Lib.hid hb
  clear ha hb
  go_enter Try.func23, Try.ntmps23
  go_wp2_with fail
  go_loopw [5] (fun i wr => ∃ k : Nat, k ≤ l.length ∧ i = .int .i64 k ∧ Hid (Ext w wr)) (fun i _ => l.length - (intOf i).toNat)
  case atStart => exact ⟨0, Nat.zero_le _, rfl, Ext.refl _⟩
  case round =>
    obtain ⟨k, hk, rfl, HX⟩ := hrel
    by_cases hlt : k < l.length
    · obtain ⟨g, cap, e1, hc⟩ := new_slice_cell HA.out (by omega)
      injection e1 with e2 e3 e4
      subst e2 e4
      clear e3
      obtain ⟨g', cap', e1, hc'⟩ := new_slice_cell HB.out (by omega)
      injection e1 with e2 e3 e4
      subst e2 e4
      clear e3
      have hget := psT_get l k l[k] (List.getElem?_eq_getElem hlt)
      have d0 := HX.out.cell (hc _ _ hget.1)
      have d1 := HX.out.cell (hc _ _ hget.2)
      have d2 := HX.out.cell (hc' _ _ hget.1)
      have d3 := HX.out.cell (hc' _ _ hget.2)
      have h0 : (0 : Int) ≤ k := by omega
      have h1 : (k : Int) < l.length := by omega
      generalize l[k] = xy at *
      obtain ⟨x, y⟩ := xy
      simp only at d0 d1 d2 d3
      have CE := Lib.hid (fun W => eqPair_calls x y W)
      clear hc hc' hget HA HB
      skip
      have KX : ∀ w', Ext wr w' → w'.cell? ⟨g, k * 2, none⟩ = some (.string x) ∧ w'.cell? ⟨g, k * 2 + 1, none⟩ = some (.string y) ∧ w'.cell? ⟨g', k * 2, none⟩ = some (.string x) ∧ w'.cell? ⟨g', k * 2 + 1, none⟩ = some (.string y) := fun w' h => ⟨h.cell d0, h.cell d1, h.cell d2, h.cell d3⟩
      go_wp2_with fail
      go_region_held3 (fun w' => w'.cell? ⟨g, k * 2, none⟩ = some (.string x) ∧ w'.cell? ⟨g, k * 2 + 1, none⟩ = some (.string y) ∧ w'.cell? ⟨g', k * 2, none⟩ = some (.string x) ∧ w'.cell? ⟨g', k * 2 + 1, none⟩ = some (.string y))
        (first | with_reducible exact KX _ (Ext.refl _).drew | with_reducible exact KX _ x2 | fail)
        (first | (go_at_call 43; refine (CE.out _).mono ?_; rintro e w2 ⟨rfl, hx⟩; have x2 := (Ext.refl wr).drew.trans hx) | fail)
      have X2 := Lib.hid (HX.out.trans x2)
      clear x2 hx d0 d1 d2 d3 KX
      go_wp2_with fail
      exact ⟨⟨k + 1, by omega, by go_num, X2.out⟩, by simp [intOf]; omega⟩
    · have h1 : (l.length : Int) ≤ k := by omega
      go_wp2_with fail
      go_ret
      exact ⟨rfl, HX.out⟩

set_option maxHeartbeats 3200000 in
set_option maxRecDepth 100000 in
theorem markPairS_calls (base : Nat) (n : Nat) (xs : List Value) (m : Nat) (hm : 1 ≤ m) (hn : m + 2 * n < 100000000) (v : Value) (w : World) (ha : w.ownsRow base 28 2 v n xs) :
    Calls Try.prog 24 #[v, .int .i64 m] w fun e w' => e = .returned (.int .i64 ((m + 2 * n : Nat) : Int)) ∧ w'.ownsRow base 28 2 v n (strs (marksS m (2 * n))) ∧ w.grownBy w' v.ownBlock := by
  have b0 : (1 : Int) ≤ m ∧ (m : Int) < 1000000000 := by omega
  have hxl : xs.length = n * 2 := ha.1
  rcases Nat.eq_zero_or_pos n with hz | hz
  · subst hz
    obtain rfl := List.eq_nil_of_length_eq_zero (by simpa using hxl)
    obtain ⟨A, c, rfl⟩ := row_form ha
    have HO := Lib.hid ha
    clear ha
    have q : Hid (w.ownsRow base 28 2 (.slice A 0 c) 0 (strs (marksS m (2 * 0)))) := HO.out
    go_enter Try.func24, Try.ntmps24
    go_wp2_with fail
    go_loopw [5, 1] (fun i q wr => i = .int .i64 0 ∧ q = .int .i64 (m : Int) ∧ wr = w) (fun i _ _ => 0)
    case atStart => exact ⟨rfl, rfl, rfl⟩
    case round =>
      obtain ⟨rfl, rfl, rfl⟩ := hrel
      go_wp2_with fail
      go_ret
      exact ⟨rfl, q.out, grownBy_refl _ _⟩
  · obtain ⟨g, c, rfl, hgb⟩ := row_block ha hz
    have HA := Lib.hid ha
    clear ha
    go_enter Try.func24, Try.ntmps24
    go_wp2_with fail
    go_loopw [5, 1] (fun i q wr => ∃ k : Nat, k ≤ n ∧ i = .int .i64 k ∧ q = .int .i64 ((m + 2 * k : Nat) : Int) ∧ Hid (wr.ownsRow base 28 2 (.slice (some ⟨g, 0, none⟩) n c) n ((strs (marksS m (2 * k))) ++ xs.drop (2 * k))) ∧ Hid (w.grownBy wr (some g))) (fun i _ _ => n - (intOf i).toNat)
    case atStart => exact ⟨0, Nat.zero_le _, rfl, rfl, HA.out, grownBy_refl _ _⟩
    case round =>
      obtain ⟨k, hk, rfl, rfl, HO, HG⟩ := hrel
      by_cases hlt : k < n
      · have hl2 : 2 * k < xs.length := by omega
        have hl3 : 2 * k + 1 < xs.length := by omega
        have S1 := Lib.hid (marksS2_step m (2 * k) xs hl2)
        have S2 := Lib.hid (marksS2_step m (2 * k + 1) xs hl3)
        have h0 : (0 : Int) ≤ k := by omega
        have h1 : (k : Int) < n := by omega
        obtain ⟨q0, hq0⟩ : ∃ q : Int, ((m + 2 * k : Nat) : Int) = q := ⟨_, rfl⟩
        have q1 : (0 : Int) ≤ q0 ∧ q0 < 1000000000 := by omega
        have Q1 : Hid (q0 + 1 = ((m + (2 * k + 1) : Nat) : Int)) := by show _ = _; omega
        have Q2 : Hid (q0 + 1 + 1 = ((m + 2 * (k + 1) : Nat) : Int)) := by show _ = _; omega
        have Q0 : Hid (q0 = ((m + 2 * k : Nat) : Int)) := hq0.symm
        obtain ⟨u0, c0⟩ := row_cell HO.out (2 * k) (by omega)
        have f0 : wr.frozen? ⟨g, 2 * k, none⟩ = false := World.ownsRow.frozenAt HO.out (2 * k)
        rw [Nat.mul_comm 2 k] at c0 f0
        rw [hq0]
        clear hq0
        have CM1 : Hid (∀ W, Calls Try.prog 44 #[.int .i64 q0] W fun e w' => e = .returned (.string (mt (m + 2 * k))) ∧ Ext W w') := fun W => by rw [Q0.out]; exact markText_calls (m + 2 * k) (by omega) (by omega) W
        have CM2 : Hid (∀ W, Calls Try.prog 44 #[.int .i64 (q0 + 1)] W fun e w' => e = .returned (.string (mt (m + (2 * k + 1)))) ∧ Ext W w') := fun W => by rw [Q1.out]; exact markText_calls (m + (2 * k + 1)) (by omega) (by omega) W
        have hs0 : (⟨g, 2 * k, none⟩ : Addr) = ⟨g, k * 2, none⟩ := by rw [Nat.mul_comm]
        have hs1 : (⟨g, 2 * k + 1, none⟩ : Addr) = ⟨g, k * 2 + 1, none⟩ := by rw [Nat.mul_comm]
        have HS0 := Lib.hid hs0
        have HS1 := Lib.hid hs1
        clear hs0 hs1
        have KK : Hid (2 * k + 1 + 1 = 2 * (k + 1)) := by show _ = _; omega
        generalize mt (m + 2 * k) = t0 at *
        generalize mt (m + (2 * k + 1)) = t1 at *
        go_wp2_with fail
        refine (CM1.out _).mono ?_
        rintro e w2 ⟨rfl, x2⟩
        have O2 := row_ext HO.out x2
        have G2 := World.grownBy.trans HG.out (x2.grownBy _)
        have c2 := x2.cell c0
        have f2 := World.ownsRow.frozenAt O2 (2 * k)
        rw [HS0.out] at f2
        obtain ⟨O3, g3⟩ := World.ownsRow.stored O2 (2 * k) (.string t0)
        rw [S1.out, HS0.out] at O3
        rw [HS0.out] at g3
        have O3 := Lib.hid O3
        have G3 := Lib.hid (World.grownBy.trans G2 g3)
        clear O2 G2 g3 x2
        go_wp2_with fail
        generalize w2.setCell ⟨g, k * 2, none⟩ (.string t0) = w3 at *
        refine (CM2.out _).mono ?_
        rintro e w4 ⟨rfl, x4⟩
        have O4 := row_ext O3.out x4
        have G4 := World.grownBy.trans G3.out (x4.grownBy _)
        obtain ⟨u1, c4⟩ := row_cell O4 (2 * k + 1) (by omega)
        have f4 := World.ownsRow.frozenAt O4 (2 * k + 1)
        rw [HS1.out] at c4 f4
        obtain ⟨O5, g5⟩ := World.ownsRow.stored O4 (2 * k + 1) (.string t1)
        rw [S2.out, HS1.out, KK.out] at O5
        rw [HS1.out] at g5
        have OO := Lib.hid O5
        have GG := Lib.hid (World.grownBy.trans G4 g5)
        clear O4 G4 O5 g5 x4
        go_wp2_with fail
        rw [Q2.out]
        exact ⟨⟨k + 1, by omega, by go_num, rfl, OO.out, GG.out⟩, by simp [intOf]; omega⟩
      · have h1 : (n : Int) ≤ k := by omega
        obtain rfl : k = n := by omega
        have O4 := HO.out
        rw [List.drop_eq_nil_of_le (by omega), List.append_nil] at O4
        have O4 := Lib.hid O4
        go_wp2_with fail
        go_ret
        exact ⟨rfl, O4.out, HG.out⟩

set_option maxHeartbeats 3200000 in
set_option maxRecDepth 100000 in
theorem heldPairS_calls (base n m : Nat) (hm : 1 ≤ m) (hn : m + 2 * n < 100000000) (v : Value) (w : World) (ha : w.ownsRow base 28 2 v n (strs (marksS m (2 * n)))) :
    Calls Try.prog 25 #[v, .int .i64 m] w fun e w' => e = .returned (.int .i64 ((m + 2 * n : Nat) : Int)) ∧ Ext w w' := by
  have b0 : (1 : Int) ≤ m ∧ (m : Int) < 1000000000 := by omega
  obtain ⟨A, c, rfl⟩ := row_form ha
  have HA := Lib.hid ha
  clear ha
  go_enter Try.func25, Try.ntmps25
  go_wp2_with fail
  go_loopw [5, 1] (fun i q wr => ∃ k : Nat, k ≤ n ∧ i = .int .i64 k ∧ q = .int .i64 ((m + 2 * k : Nat) : Int) ∧ Hid (Ext w wr)) (fun i _ _ => n - (intOf i).toNat)
  case atStart => exact ⟨0, Nat.zero_le _, rfl, rfl, Ext.refl _⟩
  case round =>
    obtain ⟨k, hk, rfl, rfl, HX⟩ := hrel
    by_cases hlt : k < n
    · obtain ⟨g, cap, e1, hc⟩ := new_slice_cell HA.out (by omega)
      injection e1 with e2 e3 e4
      subst e2 e4
      clear e3
      have d0 := HX.out.cell (hc (2 * k) _ (marksS_get m (2 * n) (2 * k) (by omega)))
      have d1 := HX.out.cell (hc (2 * k + 1) _ (marksS_get m (2 * n) (2 * k + 1) (by omega)))
      have h0 : (0 : Int) ≤ k := by omega
      have h1 : (k : Int) < n := by omega
      obtain ⟨q0, hq0⟩ : ∃ q : Int, ((m + 2 * k : Nat) : Int) = q := ⟨_, rfl⟩
      have q1 : (0 : Int) ≤ q0 ∧ q0 < 1000000000 := by omega
      have Q1 : Hid (q0 + 1 = ((m + (2 * k + 1) : Nat) : Int)) := by show _ = _; omega
      have Q2 : Hid (q0 + 1 + 1 = ((m + 2 * (k + 1) : Nat) : Int)) := by show _ = _; omega
      have Q0 : Hid (q0 = ((m + 2 * k : Nat) : Int)) := hq0.symm
      rw [Nat.mul_comm 2 k] at d0 d1
      rw [show m + k * 2 = m + 2 * k by omega] at d0
      rw [show m + (k * 2 + 1) = m + (2 * k + 1) by omega] at d1
      rw [hq0]
      clear hc HA hq0
      have CM1 : Hid (∀ W, Calls Try.prog 44 #[.int .i64 q0] W fun e w' => e = .returned (.string (mt (m + 2 * k))) ∧ Ext W w') := fun W => by rw [Q0.out]; exact markText_calls (m + 2 * k) (by omega) (by omega) W
      have CM2 : Hid (∀ W, Calls Try.prog 44 #[.int .i64 (q0 + 1)] W fun e w' => e = .returned (.string (mt (m + (2 * k + 1)))) ∧ Ext W w') := fun W => by rw [Q1.out]; exact markText_calls (m + (2 * k + 1)) (by omega) (by omega) W
      generalize mt (m + 2 * k) = t0 at *
      generalize mt (m + (2 * k + 1)) = t1 at *
      have KX : ∀ w', Ext wr w' → w'.cell? ⟨g, k * 2, none⟩ = some (.string t0) := fun w' h => h.cell d0
      go_wp2_with fail
      go_region_held3 (fun w' => w'.cell? ⟨g, k * 2, none⟩ = some (.string t0))
        (first | with_reducible exact KX _ (Ext.refl _).drew | with_reducible exact KX _ x2 | fail)
        (first | (go_at_call 44; refine (CM1.out _).mono ?_; rintro e w2 ⟨rfl, hx⟩; have x2 := (Ext.refl wr).drew.trans hx) | fail)
      have X2 := Lib.hid x2
      clear hx x2 KX
      have KX : ∀ w', Ext w2 w' → w'.cell? ⟨g, k * 2 + 1, none⟩ = some (.string t1) := fun w' h => (X2.out.trans h).cell d1
      clear d0
      go_wp2_with fail
      go_region_held3 (fun w' => w'.cell? ⟨g, k * 2 + 1, none⟩ = some (.string t1))
        (first | with_reducible exact KX _ (Ext.refl _).drew | with_reducible exact KX _ x3 | fail)
        (first | (go_at_call 44; refine (CM2.out _).mono ?_; rintro e w3 ⟨rfl, hx⟩; have x3 := (Ext.refl w2).drew.trans hx) | fail)
      have X3 := Lib.hid (HX.out.trans (X2.out.trans x3))
      clear hx x3 KX d1
      go_wp2_with fail
      rw [Q2.out]
      exact ⟨⟨k + 1, by omega, by go_num, rfl, X3.out⟩, by simp [intOf]; omega⟩
    · have h1 : (n : Int) ≤ k := by omega
      obtain rfl : k = n := by omega
      go_wp2_with fail
      go_ret
      exact ⟨rfl, HX.out⟩
end Go.Proofs.Ytfjhecilkeikiaa.N
