import Derived.Test.YtdcipaaclpedhaaGreatXr14
import Derived.Test.YtdcipaaclpedhaaGreatXr18
/- A part of the proof: lemmas that later parts use. -/
set_option linter.unusedVariables false
set_option linter.unusedSimpArgs false
namespace Go.Proofs.YtdcipaaclpedhaaGreat.N
open Go.RowKit
theorem Reads.strs_cell {w : World} {A : Option Addr} {n c : Nat} {l : List ByteArray} (h : Reads w (.slice A n c) (strs l)) {k : Nat} {s : ByteArray} (hk : l[k]? = some s) : ∃ ad, A = some ad ∧ w.cell? (ad.add k) = some (.string s) := by
  obtain ⟨B, d, e, _, hr⟩ := h
  injection e with e1 e2 e3
  subst e1
  obtain ⟨ad, rfl, hc⟩ := hr (by rw [strs_length]; exact Nat.lt_of_le_of_lt (Nat.zero_le _) (List.getElem?_eq_some_iff.1 hk).1)
  exact ⟨ad, rfl, hc k _ (by simp [strs, hk])⟩
theorem infoPr2 : (Tryz.prog.info? 25).map (fun i => (i.zero, i.size, i.bytes)) = some (some (.agg #[.string ⟨#[]⟩, .string ⟨#[]⟩]), 2, 32) := by kernel_rfl
set_option maxHeartbeats 12800000 in
set_option maxRecDepth 100000 in
theorem cjSmall_calls (n : Nat) (hn : n ≤ 3) (w : World) : Calls Tryz.prog 38 #[.int .i64 n] w fun e w' => ∃ v, e = .returned v ∧ w'.ownsRow w.heap.size 25 2 v (smallP n).length (psP (smallP n)) ∧ Ext w w' := by
  have EQ : Hid ((List.range (n + 1)).flatMap prs = smallP n) := rfl
  have nb : (n : Int) ≤ 3 := by omega
  go_enter Tryz.func38, Tryz.ntmps38
  go_wp2_with fail
  go_loopw [4, 3] (fun i v wr => ∃ k : Nat, k ≤ n + 1 ∧ i = .int .i64 k ∧ Hid (wr.ownsRow w.heap.size 25 2 v ((List.range k).flatMap prs).length (psP ((List.range k).flatMap prs))) ∧ Hid (Ext w wr)) (fun i _ _ => n + 1 - (intOf i).toNat)
  case atStart => exact ⟨0, Nat.zero_le _, rfl, World.ownsRow_nil _ _ _ _, Ext.refl _⟩
  case round =>
    obtain ⟨k, hk, rfl, HO, HX⟩ := hrel
    generalize wr = wk at *
    by_cases hlt : k < n + 1
    · have k0 : (0 : Int) ≤ k := by omega
      have k1 : (k : Int) ≤ n := by omega
      have CT := Lib.hid (trList_calls k (by omega))
      have ST := Lib.hid (smallP_step k)
      have L1 := Lib.hid (smallP_le k (by omega))
      have L2 := Lib.hid (prs_le k (by omega))
      have K4 : Hid (k ≤ 3) := by show _ ≤ _; omega
      have LA := TL_le k (by omega)
      have CA : Hid (∀ T ∈ TL k, T.carets = k) := TL_carets k
      have ND := Lib.hid (texts_nodup k)
      have TS := Lib.hid (texts_srt k)
      have PM : Hid (∀ p ∈ prs k, p.1.carets = k ∧ p.2.carets = k) := fun p hp => ⟨(prs_mem hp).1, (prs_mem hp).2.1⟩
      generalize (List.range k).flatMap prs = P at *
      generalize TL k = A at *
      obtain ⟨R, hR⟩ : ∃ R, prs k = R := ⟨_, rfl⟩
      rw [hR] at ST L2 TS PM
      clear hR
      go_wp2_with fail
      refine (CT.out _).mono ?_
      rintro e wA ⟨v1, rfl, o1, x1⟩
      obtain ⟨A1, c1, rfl⟩ := o1.txs
      have R1 := Lib.hid o1.reads
      have O1 := Lib.hid (row_ext HO.out x1)
      have XkA := Lib.hid x1
      clear o1 x1
      go_wp2_with fail
      go_loopw [23, 5] (fun i v wr => ∃ i' : Nat, i' ≤ A.length ∧ i = .int .i64 i' ∧ Hid (Own wr wA.heap.size 9 v (strs ((redA (A.take i') A).map ptx))) ∧ Hid (Ext wA wr)) (fun i _ _ => A.length - (intOf i).toNat)
      case atStart => exact ⟨0, Nat.zero_le _, rfl, Own.nil _ _ _, Ext.refl _⟩
      case round =>
        obtain ⟨i, hi, rfl, HT, HY⟩ := hrel
        generalize wr = wi at *
        by_cases hil : i < A.length
        · have h2 : (0 : Int) ≤ i := by omega
          have h3 : (i : Int) < A.length := by omega
          have hg : A[i]? = some A[i] := List.getElem?_eq_getElem hil
          obtain ⟨ad, rfl, ca⟩ := (R1.out.ext HY.out).txs_cell hg
          have RT := Lib.hid (redA_take A A i _ hg)
          have RJ : Hid ((redA (A.take i) A).length ≤ 196) := Nat.le_trans (redA_length _ _) (Nat.le_trans (Nat.mul_le_mul (show (A.take i).length ≤ 14 by rw [List.length_take]; omega) LA) (by decide))
          have TA := CA.out _ (List.getElem_mem hil)
          generalize A[i] = ta at *
          generalize redA (A.take i) A = Q at *
          go_wp2_with fail
          refine (CT.out _).mono ?_
          rintro e w2 ⟨v2, rfl, o2, x2⟩
          have K2 := Lib.hid (Kp.fresh HT.out o2)
          obtain ⟨A2, c2, rfl⟩ := o2.txs
          have T2 := Lib.hid (HT.out.ext x2)
          have Y2 := Lib.hid (HY.out.trans x2)
          clear o2 x2
          go_wp2_with fail
          go_loopw [30, 5] (fun i v wr => ∃ j : Nat, j ≤ A.length ∧ i = .int .i64 j ∧ Hid (Own wr wA.heap.size 9 v (strs ((Q ++ redR ta (A.take j)).map ptx))) ∧ Hid (Ext wA wr) ∧ Hid (Kp wr v (.slice A2 A.length c2) (txs A))) (fun i _ _ => A.length - (intOf i).toNat)
          case atStart => exact ⟨0, Nat.zero_le _, rfl, (by rw [List.take_zero, show redR ta [] = [] from rfl, List.append_nil]; exact T2.out), Y2.out, K2.out⟩
          case round =>
            obtain ⟨j, hj, rfl, HT, HY, HK⟩ := hrel
            generalize wr = wj at *
            by_cases hjl : j < A.length
            · have h4 : (0 : Int) ≤ j := by omega
              have h5 : (j : Int) < A.length := by omega
              have hg2 : A[j]? = some A[j] := List.getElem?_eq_getElem hjl
              obtain ⟨ad2, rfl, cb⟩ := HK.out.1.txs_cell hg2
              have RM := Lib.hid (redR_take ta A j _ hg2)
              have TB := CA.out _ (List.getElem_mem hjl)
              have RN : Hid ((Q ++ redR ta (A.take j)).length ≤ 210) := by
                show _ ≤ _
                rw [List.length_append]
                have := redR_length ta (A.take j)
                rw [List.length_take] at this
                have := RJ.out
                omega
              generalize A[j] = tb at *
              have CB := Lib.hid (fun W => prBoth_calls ta tb (by omega) (by omega) W)
              have CX := Lib.hid (fun W => prText_calls ta tb (by omega) (by omega) W)
              have BL : (bothT ta tb).length ≤ 4 := Nat.le_trans (both_length ta tb) (by omega)
              obtain ⟨QJ, hQJ⟩ : ∃ QJ, Q ++ redR ta (A.take j) = QJ := ⟨_, rfl⟩
              rw [hQJ] at HT RN
              have HQJ := Lib.hid hQJ
              clear hQJ
              generalize hz : ptx (ta, tb) = z at *
              have HZ := Lib.hid hz
              clear hz
              generalize tx ta = xa at *
              generalize tx tb = xb at *
              go_wp2_with fail
              refine (CB.out _).mono ?_
              rintro e w3 ⟨v3, rfl, o3, x3⟩
              have b9 := x3.at (heap_alloc_new wj (.cells #[.string xa, .string xb] 25))
              have Y3 := Lib.hid (((Ext.refl wj).alloc (.cells #[.string xa, .string xb] 25)).trans x3)
              obtain ⟨A3, c3, rfl, _, _⟩ := o3.reads
              obtain ⟨d0, d1⟩ := cells_of b9
              have NL : (nats (bothT ta tb)).length = (bothT ta tb).length := by simp [nats, ints]
              rw [NL]
              clear o3 x3 b9
              cases hb : bothT ta tb with
              | nil =>
                rw [hb] at RM
                have EM : Hid (strs (QJ.map ptx) ++ strs [z] = strs ((Q ++ redR ta (A.take (j + 1))).map ptx)) := by
                  show _ = _
                  rw [strs_append, RM.out, ← List.append_assoc, HQJ.out, List.map_append, ← HZ.out]; rfl
                have LL : Hid (((strs (QJ.map ptx)).length + (strs [z]).length) * 16 ≤ 140737488355328) := by
                  show _ ≤ _
                  rw [strs_length, strs_length, List.length_map]
                  have := RN.out
                  simp only [List.length_singleton]
                  omega
                go_wp2_with fail
                refine (CX.out _).mono ?_
                rintro e w4 ⟨rfl, x4⟩
                have Z4 := Y3.out.trans x4
                have ZA := Z4.alloc (.cells #[.string z] 9)
                have O4 := HT.out.ext ZA
                have X4 := HY.out.trans ZA
                have KB := HK.out.ext ZA
                have R4 := lit_readsS w4 z
                have B4 := Lib.hid X4.size
                go_wp2_with (at_builtin; refine wpList_app rfl (.tmp 41) (.tmp 44) 78 rfl wA.heap.size 9 (.string ⟨#[]⟩) 16 Tryz.underlying78 infoStr rfl (by omega) _ _ _ (strs [z]) rfl rfl O4 R4 (strs_one _) LL.out B4.out ?_; intro v5 w5 o5 g5 q5)
                have X5 := Lib.hid (X4.grown g5 O4.lo)
                have KB5 := Lib.hid (KB.grown g5 q5)
                rw [EM.out] at o5
                have O5 := Lib.hid o5
                clear o5 g5 q5 O4 X4 KB R4 ZA Z4 x4
                go_wp2_with fail
                exact ⟨⟨j + 1, by omega, by go_num, O5.out, X5.out, KB5.out⟩, by simp [intOf]; omega⟩
              | cons y ys =>
                rw [hb] at RM
                have ER : Hid (QJ = Q ++ redR ta (A.take (j + 1))) := by
                  show _ = _
                  rw [RM.out, ← List.append_assoc, HQJ.out]; simp
                have X5 := Lib.hid (HY.out.trans Y3.out)
                have KB5 := Lib.hid (HK.out.ext Y3.out)
                have O5 := HT.out.ext Y3.out
                rw [ER.out] at O5
                have O5 := Lib.hid O5
                have zl : ((ys.length : Int) + 1 == 0) = false := by simp; omega
                rw [List.length_cons]
                go_wp2_with fail
                exact ⟨⟨j + 1, by omega, by go_num, O5.out, X5.out, KB5.out⟩, by simp [intOf]; omega⟩
            · have h4 : (A.length : Int) ≤ j := by omega
              obtain rfl : j = A.length := by omega
              have O5 := HT.out
              rw [List.take_length, ← RT.out] at O5
              have O5 := Lib.hid O5
              go_wp2_with fail
              exact ⟨⟨i + 1, by omega, by go_num, O5.out, HY.out⟩, by simp [intOf]; omega⟩
        · have h2 : (A.length : Int) ≤ i := by omega
          obtain rfl : i = A.length := by omega
          have O5 := HT.out
          rw [List.take_length] at O5
          have LQ : ((redA A A).map ptx).length ≤ 1000 := by rw [List.length_map]; exact Nat.le_trans (redA_length _ _) (Nat.le_trans (Nat.mul_le_mul LA LA) (by decide))
          have EL : Hid (strs (srt ((redA A A).map ptx)) = strs (R.map ptx)) := by show _ = _; rw [TS.out]
          obtain ⟨⟨A5, c5, e5, hz5, rd5⟩, A6, c6, e6, hc6⟩ := O5.rc
          have hA : A6 = A5 ∧ c6 = c5 := by
            rw [e5] at e6
            injection e6 with e7 e8 e9
            exact ⟨e7.symm, e9.symm⟩
          obtain ⟨rfl, rfl⟩ := hA
          rw [strs_length] at e5 hc6
          subst e5
          have r5 : Reads wi (.slice A6 ((redA A A).map ptx).length c6) (strs ((redA A A).map ptx)) := O5.reads
          have CS := Lib.hid (lnSorted_calls _ ((redA A A).map ptx) rfl LQ ND.out A6 c6 hc6 wi r5)
          rw [EL.out] at CS
          have TBk := Lib.hid O5.block
          have XX := Lib.hid (XkA.out.trans HY.out)
          have OB := Lib.hid (fun k hk => (World.ownsRow.lt HO.out k hk).2)
          clear r5 hz5 rd5 O5
          generalize ((redA A A).map ptx).length = tn at *
          go_wp2_with fail
          refine CS.out.mono ?_
          rintro e w6 ⟨v6, rfl, r6, hb6, x6⟩
          have K6 : Hid (Kp w6 u3 v6 (strs (R.map ptx))) := by
            have hv : ∀ k, v6.ownBlock = some k → wA.heap.size ≤ k ∧ k < w6.heap.size := by
              intro j hj
              rcases hb6 with rfl | h
              · have h1 := TBk.out j hj
                exact ⟨h1.1, Nat.lt_of_lt_of_le h1.2 x6.size⟩
              · have h1 := h j hj
                exact ⟨Nat.le_trans HY.out.size h1.1, h1.2⟩
            refine ⟨r6, fun j hj hj2 => ?_, fun j hj => (hv j hj).2⟩
            have h1 := OB.out j hj
            have h2 := (hv j hj2).1
            have h3 := XkA.out.size
            omega
          obtain ⟨A7, c7, e7, _, _⟩ := r6
          rw [strs_length, List.length_map] at e7
          subst e7
          have O6 := Lib.hid (row_ext HO.out (XX.out.trans x6))
          have X6 := Lib.hid (HX.out.trans (XX.out.trans x6))
          clear hb6 x6
          go_wp2_with fail
          go_loopw [51, 3] (fun i v wr => ∃ q : Nat, q ≤ R.length ∧ i = .int .i64 q ∧ Hid (wr.ownsRow w.heap.size 25 2 v (P ++ R.take q).length (psP (P ++ R.take q))) ∧ Hid (Ext w wr) ∧ Hid (Kp wr v (.slice A7 R.length c7) (strs (R.map ptx)))) (fun i _ _ => R.length - (intOf i).toNat)
          case atStart => exact ⟨0, Nat.zero_le _, rfl, (by rw [List.take_zero, List.append_nil]; exact O6.out), X6.out, K6.out⟩
          case round =>
            obtain ⟨q, hq, rfl, HO, HX, HK⟩ := hrel
            generalize wr = wq at *
            by_cases hql : q < R.length
            · have h4 : (0 : Int) ≤ q := by omega
              have h5 : (q : Int) < R.length := by have := L2.out; omega
              have hg : R[q]? = some R[q] := List.getElem?_eq_getElem hql
              obtain ⟨ad, rfl, cs⟩ := HK.out.1.strs_cell (k := q) (s := ptx R[q]) (by rw [List.getElem?_map, hg]; rfl)
              have hp := PM.out _ (List.getElem_mem hql)
              have CP := Lib.hid (fun W => prParse_calls R[q].1 R[q].2 (by omega) (by have := K4.out; omega) W)
              have EM : Hid (psP (P ++ R.take q) ++ [.string (tx R[q].1), .string (tx R[q].2)] = psP (P ++ R.take (q + 1))) := by
                show _ = _
                rw [List.take_add_one, hg, ← List.append_assoc, psP_append _ (Option.toList _)]; rfl
              have EN : Hid ((P ++ R.take q).length + 1 = (P ++ R.take (q + 1)).length) := by
                show _ = _
                simp only [List.length_append, List.length_take]; omega
              have PL : Hid ((P ++ R.take q).length ≤ 1000) := by
                show _ ≤ _
                rw [List.length_append, List.length_take]
                have := L1.out; have := L2.out; have := K4.out
                omega
              have hz : ptx (R[q].1, R[q].2) = ptx R[q] := rfl
              rw [hz] at CP
              clear hz hp
              generalize ptx R[q] = z at *
              generalize tx R[q].1 = xa at *
              generalize tx R[q].2 = xb at *
              go_wp2_with fail
              refine (CP.out _).mono ?_
              rintro e w7 ⟨rfl, x7⟩
              have Z7 := (x7.alloc (.cells #[.string xa, .string xb] 25)).alloc (.cells #[.string xa, .string xb] 25)
              have O7 := row_ext HO.out Z7
              have X7 := HX.out.trans Z7
              have K7 := HK.out.ext Z7
              have B7 := Lib.hid X7.size
              have pl := PL.out
              have rl : (R.length : Int) ≤ 196 := by have := L2.out; omega
              have NC : ∀ j u, ([.string xa, .string xb] : List Value)[j]? = some u → ((w7.alloc (.cells #[.string xa, .string xb] 25)).alloc (.cells #[.string xa, .string xb] 25)).cell? ((⟨w7.heap.size + 1, 0, none⟩ : Addr).add j) = some u := by
                have h := new_cells (w7.alloc (.cells #[.string xa, .string xb] 25)) #[.string xa, .string xb] 25
                rw [show (w7.alloc (.cells #[.string xa, .string xb] 25)).heap.size = w7.heap.size + 1 from Array.size_push _] at h
                exact h
              have NC := Lib.hid NC
              go_wp2_with (at_builtin; refine wpList_appK rfl (.tmp 60) (.tmp 62) 28 rfl w.heap.size 25 _ 2 32 Tryz.underlying28 infoPr2 rfl (by omega) _ (P ++ R.take q).length 1 1 _ _ [.string xa, .string xb] rfl rfl O7 rfl NC.out (by simp [Value.oneCell']) (by unfold maxLen; omega) (by omega) B7.out ?_; intro v8 w8 o8 g8 q8)
              have X8 := Lib.hid (X7.grown g8 (fun k hk => (World.ownsRow.lt O7 k hk).1))
              have K8 := Lib.hid (K7.grown g8 q8)
              rw [EM.out, EN.out] at o8
              have O8 := Lib.hid o8
              clear o8 g8 q8 O7 X7 K7 Z7 x7
              go_wp2_with fail
              exact ⟨⟨q + 1, by omega, by go_num, O8.out, X8.out, K8.out⟩, by simp [intOf]; omega⟩
            · have h4 : (R.length : Int) ≤ q := by omega
              obtain rfl : q = R.length := by omega
              have O8 := HO.out
              rw [List.take_length, ← ST.out] at O8
              have O8 := Lib.hid O8
              go_wp2_with fail
              exact ⟨⟨k + 1, by omega, by go_num, O8.out, HX.out⟩, by simp [intOf]; omega⟩
    · have k1 : (n : Int) < k := by omega
      obtain rfl : k = n + 1 := by omega
      have O5 := HO.out
      rw [EQ.out] at O5
      have O5 := Lib.hid O5
      go_wp2_with fail
      go_ret
      exact ⟨_, rfl, O5.out, HX.out⟩
end Go.Proofs.YtdcipaaclpedhaaGreat.N
