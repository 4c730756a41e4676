import Derived.Laws.Cover1
import Derived.Test.YtdcipaaclpedhaaGreatXr9
/- A part of the proof: lemmas that later parts use. -/
set_option linter.unusedVariables false
set_option linter.unusedSimpArgs false
namespace Go.Proofs.YtdcipaaclpedhaaGreat.N
open Go.RowKit
def bk (s : List ByteArray) (j : Nat) (x : ByteArray) (r : List ByteArray) : List ByteArray := s.take j ++ x :: (s.drop j ++ r)
theorem bk_step (s : List ByteArray) (j : Nat) (x y : ByteArray) (r : List ByteArray) (h : s[j]? = some y) : (strs (bk s (j + 1) x r)).set (j + 1) (.string y) = strs (bk s j y r) := by
  have hj : j < s.length := (List.getElem?_eq_some_iff.1 h).1
  have e : strs (bk s (j + 1) x r) = strs (s.take (j + 1)) ++ .string x :: strs (s.drop (j + 1) ++ r) := by simp [bk, strs]
  rw [e, List.set_append_right _ _ (by rw [strs_length, List.length_take]; omega), strs_length, List.length_take, Nat.min_eq_left (by omega), Nat.sub_self, List.set_cons_zero]
  have e2 : s.drop j = y :: s.drop (j + 1) := by rw [List.drop_eq_getElem_cons hj]; rw [List.getElem?_eq_getElem hj] at h; rw [Option.some.inj h]
  unfold bk
  rw [List.take_add_one, h, e2]
  simp [strs]
theorem bk_end (s : List ByteArray) (j : Nat) (x t : ByteArray) (r : List ByteArray) (hj : j ≤ s.length) : (strs (bk s j x r)).set j (.string t) = strs ((s.take j ++ t :: s.drop j) ++ r) := by
  have e : strs (bk s j x r) = strs (s.take j) ++ .string x :: strs (s.drop j ++ r) := by simp [bk, strs]
  rw [e, List.set_append_right _ _ (by rw [strs_length, List.length_take]; omega), strs_length, List.length_take, Nat.min_eq_left (by omega), Nat.sub_self, List.set_cons_zero]
  simp [strs]
theorem bk_at (s : List ByteArray) (j : Nat) (x y : ByteArray) (r : List ByteArray) (h : s[j]? = some y) : (strs (bk s (j + 1) x r))[j]? = some (.string y) := by
  have hj : j < s.length := (List.getElem?_eq_some_iff.1 h).1
  have e : strs (bk s (j + 1) x r) = strs (s.take (j + 1)) ++ .string x :: strs (s.drop (j + 1) ++ r) := by simp [bk, strs]
  rw [e, List.getElem?_append_left (by rw [strs_length, List.length_take]; omega)]
  simp [strs, List.getElem?_take, h]
theorem gtr_true {t y : ByteArray} (h : blt t y = true) : (Op.bytesLess y.toList t.toList || y.toList == t.toList) = false := by
  cases h1 : Op.bytesLess y.toList t.toList with
  | true => have h2 := blt_trans h h1; rw [blt_irrefl] at h2; cases h2
  | false =>
    cases h3 : y.toList == t.toList with
    | false => rfl
    | true => have h4 := ba_ext (eq_of_beq h3); subst h4; rw [blt_irrefl] at h; cases h
theorem gtr_false {t y : ByteArray} (h : blt t y = false) : (Op.bytesLess y.toList t.toList || y.toList == t.toList) = true := by
  cases h1 : Op.bytesLess y.toList t.toList with
  | true => rfl
  | false => have h4 := blt_total h h1; subst h4; simp
theorem srt_one (R : List ByteArray) : srt (R.take 1) ++ R.drop 1 = R := by
  cases R with
  | nil => rfl
  | cons a R => simp [srt, ins]
set_option maxHeartbeats 12800000 in
set_option maxRecDepth 100000 in
theorem trList_calls (n : Nat) : n ≤ 4 → ∀ w : World, Calls Tryz.prog 66 #[.int .i64 n] w fun e w' => ∃ v, e = .returned v ∧ Own w' w.heap.size 9 v (txs (TL n)) ∧ Ext w w' := by
  induction n using Nat.strongRecOn with
  | _ n ih =>
  intro hn w
  rcases Nat.eq_zero_or_pos n with rfl | hp
  · have RL := Lib.hid (Own.lit w w.heap.size 9 #[.string ⟨#[46]⟩] (Nat.le_refl _) (by show 1 ≤ maxLen; decide))
    have X := Lib.hid ((Ext.refl w).alloc (.cells #[.string ⟨#[46]⟩] 9))
    clear ih
    go_enter Tryz.func66, Tryz.ntmps66
    go_wp2_with fail
    go_ret
    exact ⟨_, rfl, RL.out, X.out⟩
  · have IH := Lib.hid (fun m (h : m < n) W => ih m h (by omega) W)
    clear ih
    have g0 : ((n : Int) == 0) = false := by simp; omega
    have nb : (n : Int) ≤ 4 := by omega
    go_enter Tryz.func66, Tryz.ntmps66
    go_wp2_with fail
    go_loopw [4, 3] (fun i v wr => ∃ k : Nat, k ≤ n ∧ i = .int .i64 k ∧ Hid (Own wr w.heap.size 9 v (txs (raw TL n k))) ∧ Hid (Ext w wr)) (fun i _ _ => n - (intOf i).toNat)
    case atStart => exact ⟨0, Nat.zero_le _, rfl, Own.nil _ _ _, Ext.refl _⟩
    case round =>
      obtain ⟨k, hk, rfl, HO, HX⟩ := hrel
      generalize wr = wk at *
      by_cases hlt : k < n
      · have h0 : (0 : Int) ≤ k := by omega
        have h1 : (k : Int) < n := by omega
        have EK : Hid ((n : Int) - 1 - k = ((n - 1 - k : Nat) : Int)) := by show _ = _; omega
        have RS := Lib.hid (raw_succ TL n k)
        have RB := Lib.hid (raw_le n k hn (by omega))
        have LA := Lib.hid (TL_le k (by omega))
        have LB := Lib.hid (TL_le (n - 1 - k) (by omega))
        have K4 : Hid (k ≤ 4) := by show _ ≤ _; omega
        have C1 := Lib.hid (IH.out k hlt)
        have CA : Hid (∀ T ∈ TL k, T.carets ≤ 900000000) := fun T hT => by rw [TL_carets k T hT]; omega
        have CB : Hid (∀ T ∈ TL (n - 1 - k), T.carets ≤ 900000000) := fun T hT => by rw [TL_carets _ T hT]; omega
        have C2 := Lib.hid (IH.out (n - 1 - k) (by omega))
        generalize raw TL n k = P at *
        generalize TL k = A at *
        generalize TL (n - 1 - k) = B at *
        go_wp2_with fail
        refine (C1.out _).mono ?_
        rintro e w1 ⟨v1, rfl, o1, x1⟩
        have K1 := Kp.fresh HO.out o1
        have O1 := HO.out.ext x1
        have X1 := HX.out.trans x1
        go_wp2_with fail
        rw [EK.out]
        refine (C2.out _).mono ?_
        rintro e w2 ⟨v2, rfl, o2, x2⟩
        have K2 := Lib.hid (Kp.fresh O1 o2)
        have K1 := Lib.hid (K1.ext x2)
        have O2 := Lib.hid (O1.ext x2)
        have X2 := Lib.hid (X1.trans x2)
        obtain ⟨A1, c1, rfl⟩ := o1.txs
        obtain ⟨A2, c2, rfl⟩ := o2.txs
        clear o1 o2 x1 x2 O1 X1 HO HX
        have la := LA.out
        have lb := LB.out
        go_wp2_with fail
        go_loopw [31, 3] (fun i v wr => ∃ i' : Nat, i' ≤ A.length ∧ i = .int .i64 i' ∧ Hid (Own wr w.heap.size 9 v (txs (P ++ rawJ (A.take i') B))) ∧ Hid (Ext w wr) ∧ Hid (Kp wr v (.slice A1 A.length c1) (txs A)) ∧ Hid (Kp wr v (.slice A2 B.length c2) (txs B))) (fun i _ _ => A.length - (intOf i).toNat)
        case atStart => exact ⟨0, Nat.zero_le _, rfl, (by rw [List.take_zero, show rawJ [] B = [] from rfl, List.append_nil]; exact O2.out), X2.out, K1.out, K2.out⟩
        case round =>
          obtain ⟨i, hi, rfl, HO, HX, HA, HB⟩ := hrel
          generalize wr = wi at *
          by_cases hil : i < A.length
          · have h2 : (0 : Int) ≤ i := by omega
            have h3 : (i : Int) < A.length := by omega
            have hg : A[i]? = some A[i] := List.getElem?_eq_getElem hil
            obtain ⟨ad, rfl, ca⟩ := HA.out.1.txs_cell hg
            have RT := Lib.hid (rawJ_take A B i _ hg)
            have RJ : Hid ((rawJ (A.take i) B).length ≤ 196) := by
              show _ ≤ _
              rw [rawJ_length]
              exact Nat.le_trans (Nat.mul_le_mul (show (A.take i).length ≤ 14 by rw [List.length_take]; omega) lb) (by decide)
            have TA : Hid (A[i].carets ≤ 900000000) := CA.out _ (List.getElem_mem _)
            generalize A[i] = ta at *
            generalize rawJ (A.take i) B = PJ at *
            go_wp2_with fail
            go_loopw [37, 3] (fun i v wr => ∃ j : Nat, j ≤ B.length ∧ i = .int .i64 j ∧ Hid (Own wr w.heap.size 9 v (txs (P ++ PJ ++ (B.take j).map (Tr.node ta)))) ∧ Hid (Ext w wr) ∧ Hid (Kp wr v (.slice (some ad) A.length c1) (txs A)) ∧ Hid (Kp wr v (.slice A2 B.length c2) (txs B))) (fun i _ _ => B.length - (intOf i).toNat)
            case atStart => exact ⟨0, Nat.zero_le _, rfl, (by rw [List.take_zero, List.map_nil, List.append_nil]; exact HO.out), HX.out, HA.out, HB.out⟩
            case round =>
              obtain ⟨j, hj, rfl, HO, HX, HA, HB⟩ := hrel
              generalize wr = wj at *
              by_cases hjl : j < B.length
              · have h4 : (0 : Int) ≤ j := by omega
                have h5 : (j : Int) < B.length := by omega
                have hg2 : B[j]? = some B[j] := List.getElem?_eq_getElem hjl
                obtain ⟨ad2, rfl, cb⟩ := HB.out.1.txs_cell hg2
                have RM := Lib.hid (mapN_take ta B j _ hg2)
                have TB : Hid (B[j].carets ≤ 900000000) := CB.out _ (List.getElem_mem _)
                have CT := Lib.hid (trOf_tx ta B[j] TA.out TB.out)
                have LL : Hid (((txs (P ++ PJ ++ (B.take j).map (Tr.node ta))).length + (txs [Tr.node ta B[j]]).length) * 16 ≤ 140737488355328) := by
                  show _ ≤ _
                  rw [txs_length, txs_length, List.length_append, List.length_append, List.length_map, List.length_take]
                  have := RB.out; have := RJ.out; have := K4.out
                  simp only [List.length_singleton]
                  omega
                generalize B[j] = tb at *
                go_wp2_with fail
                refine (CT.out _).mono ?_
                rintro e w3 ⟨rfl, rfl⟩
                have O3 := HO.out.ext ((Ext.refl wj).alloc (.cells #[.string (tx (.node ta tb))] 9))
                have X3 := HX.out.alloc (.cells #[.string (tx (.node ta tb))] 9)
                have KA3 := HA.out.ext ((Ext.refl wj).alloc (.cells #[.string (tx (.node ta tb))] 9))
                have KB3 := HB.out.ext ((Ext.refl wj).alloc (.cells #[.string (tx (.node ta tb))] 9))
                have R3 : Reads _ _ (txs [Tr.node ta tb]) := lit_readsS wj (tx (.node ta tb))
                have B3 := Lib.hid X3.size
                go_wp2_with (at_builtin; refine wpList_app rfl (.tmp 41) (.tmp 45) 78 rfl w.heap.size 9 (.string ⟨#[]⟩) 16 Tryz.underlying78 infoStr rfl (by omega) _ _ _ (txs [Tr.node ta tb]) rfl rfl O3 R3 (txs_one _) LL.out B3.out ?_; intro v4 w4 o4 g4 q4)
                have X4 := Lib.hid (X3.grown g4 O3.lo)
                have KA4 := Lib.hid (KA3.grown g4 q4)
                have KB4 := Lib.hid (KB3.grown g4 q4)
                rw [txs_append, List.append_assoc _ _ [Tr.node ta tb], ← RM.out] at o4
                have O4 := Lib.hid o4
                clear o4 g4 q4 O3 X3 KA3 KB3 R3
                go_wp2_with fail
                exact ⟨⟨j + 1, by omega, by go_num, O4.out, X4.out, KA4.out, KB4.out⟩, by simp [intOf]; omega⟩
              · have h4 : (B.length : Int) ≤ j := by omega
                obtain rfl : j = B.length := by omega
                have O5 := HO.out
                rw [List.take_length, List.append_assoc, ← RT.out] at O5
                have O5 := Lib.hid O5
                go_wp2_with fail
                exact ⟨⟨i + 1, by omega, by go_num, O5.out, HX.out, HA.out, HB.out⟩, by simp [intOf]; omega⟩
          · have h2 : (A.length : Int) ≤ i := by omega
            obtain rfl : i = A.length := by omega
            have O5 := HO.out
            rw [List.take_length, ← RS.out] at O5
            have O5 := Lib.hid O5
            go_wp2_with fail
            exact ⟨⟨k + 1, by omega, by go_num, O5.out, HX.out⟩, by simp [intOf]; omega⟩
      · have h1 : (n : Int) ≤ k := by omega
        obtain rfl : k = n := by omega
        obtain ⟨p, rfl⟩ : ∃ p, k = p + 1 := ⟨k - 1, by omega⟩
        have ES : Hid ((TL (p + 1)).map tx = srt ((raw TL (p + 1) (p + 1)).map tx)) := by show _ = _; rw [TL_succ, srtT_tx]
        have LR : Hid ((raw TL (p + 1) (p + 1)).length ≤ 800) := Nat.le_trans (raw_le (p + 1) (p + 1) hn (Nat.le_refl _)) (by omega)
        have HO := HO.out
        unfold txs at HO
        have LR : Hid (((raw TL (p + 1) (p + 1)).map tx).length ≤ 800) := by show _ ≤ _; rw [List.length_map]; exact LR.out
        generalize (raw TL (p + 1) (p + 1)).map tx = R at *
        obtain ⟨A, c, rfl, _, _⟩ := HO.reads
        have H0 : Hid (wk.ownsRow w.heap.size 9 1 (.slice A R.length c) R.length (strs (srt (R.take 1) ++ R.drop 1))) := by
          rw [srt_one]
          have h := HO
          unfold Own at h
          rw [strs_length] at h
          exact h
        have lr := LR.out
        rw [strs_length]
        clear HO
        go_wp2_with fail
        go_loopw [11] (fun i wr => ∃ m : Nat, 1 ≤ m ∧ (m ≤ R.length ∨ m = 1) ∧ i = .int .i64 m ∧ Hid (wr.ownsRow w.heap.size 9 1 (.slice A R.length c) R.length (strs (srt (R.take m) ++ R.drop m))) ∧ Hid (Ext w wr)) (fun i _ => R.length + 1 - (intOf i).toNat)
        case atStart => exact ⟨1, Nat.le_refl _, .inr rfl, rfl, H0.out, HX.out⟩
        case round =>
          obtain ⟨m, hm1, hm2, rfl, HO, HX⟩ := hrel
          generalize wr = wm at *
          by_cases hml : m < R.length
          · obtain ⟨g, c', e1, hgb⟩ := row_block HO.out (by omega)
            injection e1 with e2 e3 e4
            subst e2 e4
            have m0 : (0 : Int) ≤ m := by omega
            have m2 : (m : Int) < R.length := by omega
            have hr : R[m]? = some R[m] := List.getElem?_eq_getElem hml
            have SL : (srt (R.take m)).length = m := by rw [srt_length, List.length_take, Nat.min_eq_left (by omega)]
            have ct : wm.cell? ⟨g, m, none⟩ = some (.string R[m]) := by
              rw [World.ownsRow.cellAt HO.out m (by omega)]
              simp only [strs, List.map_append]; rw [List.getElem?_append_right (by rw [List.length_map, SL]; exact Nat.le_refl _), List.length_map, SL, Nat.sub_self]; simp [hr]
            have TS : Hid (srt (R.take (m + 1)) = ins R[m] (srt (R.take m))) := by show _ = _; rw [List.take_add_one, hr]; exact srt_snoc _ _
            have SS := Lib.hid (srt_srt (R.take m))
            have B0 : Hid (wm.ownsRow w.heap.size 9 1 (.slice (some ⟨g, 0, none⟩) R.length c) R.length (strs (bk (srt (R.take m)) m R[m] (R.drop (m + 1))))) := by
              have h := HO.out
              rw [show R.drop m = R[m] :: R.drop (m + 1) from List.drop_eq_getElem_cons hml] at h
              have : bk (srt (R.take m)) m R[m] (R.drop (m + 1)) = srt (R.take m) ++ R[m] :: R.drop (m + 1) := by
                unfold bk
                rw [List.take_of_length_le (by omega), List.drop_eq_nil_of_le (by omega), List.nil_append]
              rw [this]; exact h
            generalize srt (R.take m) = s at *
            generalize R[m] = t at *
            obtain ⟨r, hrr⟩ : ∃ r, R.drop (m + 1) = r := ⟨_, rfl⟩
            rw [hrr] at B0
            have HRR := Lib.hid hrr
            clear hrr
            clear HO e3
            go_wp2_with fail
            go_loopw [13] (fun i wr => ∃ j : Nat, j ≤ m ∧ i = .int .i64 j ∧ (∃ x, Hid (wr.ownsRow w.heap.size 9 1 (.slice (some ⟨g, 0, none⟩) R.length c) R.length (strs (bk s j x r)))) ∧ Hid (∀ i y, j ≤ i → s[i]? = some y → blt t y = true) ∧ Hid (Ext w wr)) (fun i _ => (intOf i).toNat)
            case atStart => exact ⟨m, Nat.le_refl _, rfl, ⟨_, B0.out⟩, (fun i y h1 h2 => by rw [List.getElem?_eq_none (by omega)] at h2; cases h2), HX.out⟩
            case round =>
              obtain ⟨j, hj, rfl, ⟨x, HO⟩, HB, HX⟩ := hrel
              generalize wr = wj at *
              have FIN : ∀ (W : World), W = wj → (∀ y, 0 < j → s[j - 1]? = some y → blt t y = false) → Hid ((wj.setCell ⟨g, j, none⟩ (.string t)).ownsRow w.heap.size 9 1 (.slice (some ⟨g, 0, none⟩) R.length c) R.length (strs (srt (R.take (m + 1)) ++ R.drop (m + 1)))) ∧ Hid (Ext w (wj.setCell ⟨g, j, none⟩ (.string t))) := by
                intro W _ h2
                obtain ⟨O1, g1⟩ := World.ownsRow.stored HO.out j (.string t)
                rw [bk_end s j x t r (by omega), ins_back t s j SS.out (by omega) HB.out h2, ← TS.out, ← HRR.out] at O1
                exact ⟨O1, HX.out.grown g1 (fun k hk => by injection hk with hk; omega)⟩
              have FIN := Lib.hid FIN
              obtain ⟨uu, cj⟩ := row_cell HO.out j (by omega)
              have fj := World.ownsRow.frozenAt HO.out j
              have j0 : (0 : Int) ≤ j := by omega
              have j1 : (j : Int) < R.length := by omega
              rcases Nat.eq_zero_or_pos j with hz | hz
              · subst hz
                obtain ⟨F1, F2⟩ := FIN.out _ rfl (fun y h => absurd h (Nat.lt_irrefl _))
                clear FIN HB
                go_wp2_with fail
                exact ⟨⟨m + 1, by omega, by omega, by go_num, F1.out, F2.out⟩, by simp [intOf]; omega⟩
              · obtain ⟨q, rfl⟩ : ∃ q, j = q + 1 := ⟨j - 1, by omega⟩
                have hq : s[q]? = some s[q] := List.getElem?_eq_getElem (by omega)
                have cq : wj.cell? ⟨g, q, none⟩ = some (.string s[q]) := by
                  rw [World.ownsRow.cellAt HO.out q (by omega)]
                  exact bk_at s q x _ r hq
                have EQ : Hid (((q + 1 : Nat) : Int) - 1 = (q : Int)) := by show _ = _; omega
                have q1 : (0 : Int) ≤ q ∧ (q : Int) < R.length := by omega
                obtain ⟨O1, g1⟩ := World.ownsRow.stored HO.out (q + 1) (.string s[q])
                rw [bk_step s q x _ r hq] at O1
                have O1 := Lib.hid O1
                have X1 := Lib.hid (HX.out.grown g1 (fun k hk => by injection hk with hk; omega))
                have hq := Lib.hid hq
                generalize s[q] = y at *
                cases hb : blt t y with
                | true =>
                  have HB2 : Hid (∀ i z, q ≤ i → s[i]? = some z → blt t z = true) := by
                    intro i z hi hz2
                    rcases Nat.lt_or_ge q i with h | h
                    · exact HB.out i z h hz2
                    · obtain rfl : i = q := by omega
                      rw [hq.out] at hz2; injection hz2 with hz2; rw [← hz2]; exact hb
                  have hb := gtr_true hb
                  clear FIN HB g1
                  go_wp2_with fail
                  exact ⟨⟨q, by omega, rfl, ⟨y, O1.out⟩, HB2.out, X1.out⟩, by simp [intOf]⟩
                | false =>
                  obtain ⟨F1, F2⟩ := FIN.out _ rfl (fun z _ h => by rw [show q + 1 - 1 = q from rfl, hq.out] at h; injection h with h; rw [← h]; exact hb)
                  have hb := gtr_false hb
                  clear FIN HB g1 O1 X1
                  go_wp2_with fail
                  exact ⟨⟨m + 1, by omega, by omega, by go_num, F1.out, F2.out⟩, by simp [intOf]; omega⟩
          · have m2 : (R.length : Int) ≤ m := by omega
            have O5 := HO.out
            rw [List.take_of_length_le (by omega), List.drop_eq_nil_of_le (by omega), List.append_nil] at O5
            have O5 := Lib.hid O5
            go_wp2_with fail
            go_ret
            exact ⟨_, rfl, (by unfold Own txs; rw [ES.out, strs_length, srt_length]; exact O5.out), HX.out⟩
end Go.Proofs.YtdcipaaclpedhaaGreat.N
