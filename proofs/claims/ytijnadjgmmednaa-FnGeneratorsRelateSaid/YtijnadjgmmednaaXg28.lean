import Derived.Test.YtijnadjgmmednaaXg15
import Derived.Test.YtijnadjgmmednaaXg27
/- A part of the proof: lemmas that later parts use. -/
set_option linter.unusedVariables false
set_option linter.unusedSimpArgs false
namespace Go.Proofs.Ytijnadjgmmednaa.N
open Go.RowKit
set_option maxHeartbeats 12800000 in
set_option maxRecDepth 100000 in
theorem specCR_yes (n : Nat) (hn : n ≤ 4) (w : World) : Calls Try.prog 48 #[.int .i64 n] w fun e w' => e = .returned (.tuple #[.int .i64 ((prs n).length : Nat), .bool true]) ∧ Ext w w' := by
  have CT := Lib.hid (trList_calls n hn)
  have CI := Lib.hid (fun W => l1In_calls (n : Int) 0 4 W)
  rw [decide_eq_true (show (0 : Int) ≤ n ∧ (n : Int) ≤ 4 by omega)] at CI
  have LA := TL_le n hn
  have CA : Hid (∀ T ∈ TL n, T.carets = n) := TL_carets n
  have EP : Hid ((prs n).length = (redA (TL n) (TL n)).length) := prs_length n
  generalize TL n = A at *
  generalize (prs n).length = R at *
  go_enter Try.func48, Try.ntmps48
  go_wp2_with fail
  refine (CI.out _).mono ?_
  rintro e w0 ⟨rfl, rfl⟩
  go_wp2_with fail
  refine (CT.out _).mono ?_
  rintro e w1 ⟨v1, rfl, o1, x1⟩
  obtain ⟨A1, c1, rfl⟩ := o1.txs
  have R1 := Lib.hid o1.reads
  have X1 := Lib.hid x1
  clear o1 x1
  go_wp2_with fail
  go_loopw [15, 4] (fun i v wr => ∃ i' : Nat, i' ≤ A.length ∧ i = .int .i64 i' ∧ v = .int .i64 ((redA (A.take i') A).length : Nat) ∧ Hid (Ext w1 wr)) (fun i _ _ => A.length - (intOf i).toNat)
  case atStart => exact ⟨0, Nat.zero_le _, rfl, rfl, Ext.refl _⟩
  case round =>
    obtain ⟨i, hi, rfl, rfl, HX⟩ := hrel
    generalize wr = wi at *
    by_cases hil : i < A.length
    · have h2 : (0 : Int) ≤ i := by omega
      have h3 : (i : Int) < A.length := by omega
      have hg : A[i]? = some A[i] := List.getElem?_eq_getElem hil
      obtain ⟨ad, rfl, ca⟩ := (R1.out.ext HX.out).txs_cell hg
      have RT : Hid ((redA (A.take (i + 1)) A).length = (redA (A.take i) A).length + (redR A[i] A).length) := by show _ = _; rw [redA_take A A i _ hg, List.length_append]
      have RJ : Hid ((redA (A.take i) A).length ≤ 196) := Nat.le_trans (redA_length _ _) (Nat.le_trans (Nat.mul_le_mul (show (A.take i).length ≤ 14 by rw [List.length_take]; omega) LA) (by decide))
      have TA := CA.out _ (List.getElem_mem hil)
      generalize A[i] = ta at *
      generalize (redA (A.take i) A).length = P at *
      have pb := RJ.out
      go_wp2_with fail
      refine (CT.out _).mono ?_
      rintro e w2 ⟨v2, rfl, o2, x2⟩
      obtain ⟨A2, c2, rfl⟩ := o2.txs
      have R2 := Lib.hid o2.reads
      have X2 := Lib.hid (HX.out.trans x2)
      clear o2 x2
      go_wp2_with fail
      go_loopw [22, 4] (fun i v wr => ∃ j : Nat, j ≤ A.length ∧ i = .int .i64 j ∧ v = .int .i64 ((P + (redR ta (A.take j)).length : Nat) : Int) ∧ Hid (Ext w2 wr)) (fun i _ _ => A.length - (intOf i).toNat)
      case atStart => exact ⟨0, Nat.zero_le _, rfl, rfl, Ext.refl _⟩
      case round =>
        obtain ⟨j, hj, rfl, rfl, HY⟩ := hrel
        generalize wr = wj at *
        by_cases hjl : j < A.length
        · have h4 : (0 : Int) ≤ j := by omega
          have h5 : (j : Int) < A.length := by omega
          have hg2 : A[j]? = some A[j] := List.getElem?_eq_getElem hjl
          obtain ⟨ad2, rfl, cb⟩ := (R2.out.ext HY.out).txs_cell hg2
          have RM := Lib.hid (redR_take ta A j _ hg2)
          have TB := CA.out _ (List.getElem_mem hjl)
          have RN : Hid ((redR ta (A.take j)).length ≤ 14) := by
            show _ ≤ _
            have := redR_length ta (A.take j)
            rw [List.length_take] at this
            omega
          generalize A[j] = tb at *
          have CB := Lib.hid (fun W => prBoth_calls ta tb (by omega) (by omega) W)
          have BL : (bothT ta tb).length ≤ 4 := Nat.le_trans (both_length ta tb) (by omega)
          obtain ⟨Q, hQ⟩ : ∃ Q, (redR ta (A.take j)).length = Q := ⟨_, rfl⟩
          rw [hQ] at RN
          rw [hQ]
          have qb := RN.out
          obtain ⟨PQ, hPQ⟩ : ∃ PQ, P + Q = PQ := ⟨_, rfl⟩
          rw [hPQ]
          have pq : (PQ : Int) ≤ 300 := by omega
          generalize tx ta = xa at *
          generalize tx tb = xb at *
          go_wp2_with fail
          refine (CB.out _).mono ?_
          rintro e w3 ⟨v3, rfl, o3, x3⟩
          obtain ⟨A3, c3, rfl, _, _⟩ := o3.reads
          have Y3 := Lib.hid (HY.out.trans x3)
          have NL : (nats (bothT ta tb)).length = (bothT ta tb).length := by simp [nats, ints]
          rw [NL]
          clear o3 x3
          cases hb : bothT ta tb with
          | nil =>
            rw [hb] at RM
            have EN : Hid (PQ + 1 = P + (redR ta (A.take (j + 1))).length) := by
              show _ = _
              rw [RM.out, List.length_append, hQ, ← hPQ]; simp; omega
            clear hQ hPQ
            go_wp2_with fail
            exact ⟨⟨j + 1, by omega, by go_num, by rw [← EN.out]; go_num, Y3.out⟩, by simp [intOf]; omega⟩
          | cons z zs =>
            rw [hb] at RM
            have EN : Hid (PQ = P + (redR ta (A.take (j + 1))).length) := by
              show _ = _
              rw [RM.out, List.length_append, hQ, ← hPQ]; simp
            have zl : ((zs.length : Int) + 1 == 0) = false := by simp; omega
            rw [List.length_cons]
            clear hQ hPQ
            go_wp2_with fail
            exact ⟨⟨j + 1, by omega, by go_num, by rw [← EN.out], Y3.out⟩, by simp [intOf]; omega⟩
        · have h4 : (A.length : Int) ≤ j := by omega
          obtain rfl : j = A.length := by omega
          rw [List.take_length]
          have Y3 := Lib.hid (X2.out.trans HY.out)
          obtain ⟨Z, hZ⟩ : ∃ Z, P + (redR ta A).length = Z := ⟨_, rfl⟩
          have EZ : Hid (Z = (redA (A.take (i + 1)) A).length) := by show _ = _; rw [RT.out, hZ]
          rw [hZ]
          clear hZ
          go_wp2_with fail
          exact ⟨⟨i + 1, by omega, by go_num, by rw [← EZ.out], Y3.out⟩, by simp [intOf]; omega⟩
    · have h2 : (A.length : Int) ≤ i := by omega
      obtain rfl : i = A.length := by omega
      rw [List.take_length, ← EP.out]
      have X9 := Lib.hid (X1.out.trans HX.out)
      go_wp2_with fail
      go_ret2
      exact ⟨rfl, X9.out⟩
set_option maxHeartbeats 3200000 in
theorem specCR_no (n : Int) (hn : ¬ (0 ≤ n ∧ n ≤ 4)) (w : World) : Calls Try.prog 48 #[.int .i64 n] w fun e w' => e = .returned (.tuple #[.int .i64 0, .bool false]) ∧ Ext w w' := by
  have CI := Lib.hid (fun W => l1In_calls n 0 4 W)
  rw [decide_eq_false hn] at CI
  clear hn
  go_enter Try.func48, Try.ntmps48
  go_wp2_with fail
  refine (CI.out _).mono ?_
  rintro e w0 ⟨rfl, rfl⟩
  go_wp2_with fail
  go_ret2
  exact ⟨rfl, Ext.refl _⟩
set_option maxHeartbeats 3200000 in
theorem implCR_yes (n : Nat) (hn : n ≤ 4) (w : World) : Calls Try.prog 47 #[.int .i64 n] w fun e w' => e = .returned (.tuple #[.int .i64 ((prs n).length : Nat), .bool true]) ∧ Ext w w' := by
  have CR := Lib.hid (reducedPairs_calls n hn)
  have h1 : ¬ ((n : Int) < 0) := by omega
  have h2 : ¬ ((4 : Int) < n) := by omega
  have h3 : (n : Int) ≤ 4 := by omega
  go_enter Try.func47, Try.ntmps47
  go_wp2_with fail
  refine (CR.out _).mono ?_
  rintro e w1 ⟨v, rfl, o, x⟩
  obtain ⟨A, c, rfl⟩ := row_form o
  have X := Lib.hid x
  clear o x
  go_wp2_with fail
  go_ret2
  exact ⟨rfl, X.out⟩
set_option maxHeartbeats 3200000 in
theorem implCR_no (n : Int) (hn : ¬ (0 ≤ n ∧ n ≤ 4)) (w : World) : Calls Try.prog 47 #[.int .i64 n] w fun e w' => e = .returned (.tuple #[.int .i64 0, .bool false]) ∧ Ext w w' := by
  by_cases h0 : n < 0
  · clear hn
    go_enter Try.func47, Try.ntmps47
    go_wp2_with fail
    go_ret2
    exact ⟨rfl, Ext.refl _⟩
  · have h1 : 4 < n := by omega
    have h2 : 0 ≤ n := by omega
    clear hn
    go_enter Try.func47, Try.ntmps47
    go_wp2_with fail
    go_ret2
    exact ⟨rfl, Ext.refl _⟩
end Go.Proofs.Ytijnadjgmmednaa.N
