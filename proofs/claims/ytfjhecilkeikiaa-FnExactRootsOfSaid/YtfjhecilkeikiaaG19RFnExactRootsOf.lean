import Derived.Test.YtfjhecilkeikiaaG1RFnExactRootsOf
import Derived.Test.YtfjhecilkeikiaaG2RFnExactRootsOf
import Derived.Test.YtfjhecilkeikiaaProg
import Derived.Test.YtfjhecilkeikiaaG6RFnExactRootsOf
import Derived.Test.YtfjhecilkeikiaaG5RFnExactRootsOf
import Derived.Test.YtfjhecilkeikiaaG8RFnExactRootsOf
import Derived.Test.YtfjhecilkeikiaaG14RFnExactRootsOf
import Derived.Test.YtfjhecilkeikiaaG15RFnExactRootsOf
import Derived.Test.YtfjhecilkeikiaaG16RFnExactRootsOf
import Derived.Deep.LoopGhost
import Derived.Deep.RegionHeld3
import Derived.Deep.QuietTactic
import Derived.Laws.Cover1
import Derived.Deep.CutRange
import Derived.BigQuiet
/- All trees with so many carets, the reference's. -/
namespace Go.Proofs.Ytfjhecilkeikiaa.N
open Go.RowKit
set_option linter.unusedVariables false
set_option linter.unusedSimpArgs false

/-- The row while one text is put in from behind. -/
def bk (s : List ByteArray) (j : Nat) (x : ByteArray) (r : List ByteArray) : List ByteArray := s.take j ++ x :: (s.drop j ++ r)
theorem bk_step (s : List ByteArray) (j : Nat) (x y : ByteArray) (r : List ByteArray) (h : s[j]? = some y) : (strs (bk s (j + 1) x r)).set (j + 1) (.string y) = strs (bk s j y r) := by
  have hj : j < s.length := (List.getElem?_eq_some_iff.1 h).1
  have e : strs (bk s (j + 1) x r) = strs (s.take (j + 1)) ++ .string x :: strs (s.drop (j + 1) ++ r) := by simp [bk, strs]
  rw [e, List.set_append_right _ _ (by rw [strs_length, List.length_take]; omega), strs_length, List.length_take, Nat.min_eq_left (by omega), Nat.sub_self, List.set_cons_zero]
  have e2 : s.drop j = y :: s.drop (j + 1) := by rw [List.drop_eq_getElem_cons hj]; rw [List.getElem?_eq_getElem hj] at h; rw [Option.some.inj h]
  unfold bk
  rw [List.take_add_one, h, e2]
  simp [strs]
theorem bk_end (s : List ByteArray) (j : Nat) (x t : ByteArray) (r : List ByteArray) (hj : j ≤ s.length) : (strs (bk s j x r)).set j (.string t) = strs ((s.take j ++ t :: s.drop j) ++ r) := by
  have e : strs (bk s j x r) = strs (s.take j) ++ .string x :: strs (s.drop j ++ r) := by simp [bk, strs]
  rw [e, List.set_append_right _ _ (by rw [strs_length, List.length_take]; omega), strs_length, List.length_take, Nat.min_eq_left (by omega), Nat.sub_self, List.set_cons_zero]
  simp [strs]
theorem bk_at (s : List ByteArray) (j : Nat) (x y : ByteArray) (r : List ByteArray) (h : s[j]? = some y) : (strs (bk s (j + 1) x r))[j]? = some (.string y) := by
  have hj : j < s.length := (List.getElem?_eq_some_iff.1 h).1
  have e : strs (bk s (j + 1) x r) = strs (s.take (j + 1)) ++ .string x :: strs (s.drop (j + 1) ++ r) := by simp [bk, strs]
  rw [e, List.getElem?_append_left (by rw [strs_length, List.length_take]; omega)]
  simp [strs, List.getElem?_take, h]
theorem gtr_true {t y : ByteArray} (h : blt t y = true) : (Op.bytesLess y.toList t.toList || y.toList == t.toList) = false := by
  cases h1 : Op.bytesLess y.toList t.toList with
  | true => have h2 := blt_trans h h1; rw [blt_irrefl] at h2; cases h2
  | false =>
    cases h3 : y.toList == t.toList with
    | false => rfl
    | true => have h4 := ba_ext (eq_of_beq h3); subst h4; rw [blt_irrefl] at h; cases h
theorem gtr_false {t y : ByteArray} (h : blt t y = false) : (Op.bytesLess y.toList t.toList || y.toList == t.toList) = true := by
  cases h1 : Op.bytesLess y.toList t.toList with
  | true => rfl
  | false => have h4 := blt_total h h1; subst h4; simp
theorem srt_one (R : List ByteArray) : srt (R.take 1) ++ R.drop 1 = R := by
  cases R with
  | nil => rfl
  | cons a R => simp [srt, ins]
set_option maxHeartbeats 12800000 in
set_option maxRecDepth 100000 in
theorem trList_calls (n : Nat) : n ≤ 4 → ∀ w : World, Calls Try.prog 38 #[.int .i64 n] w fun e w' => ∃ v, e = .returned v ∧ Own w' w.heap.size 9 v (txs (TL n)) ∧ Ext w w' := by
  induction n using Nat.strongRecOn with
  | _ n ih =>
  intro hn w
  rcases Nat.eq_zero_or_pos n with rfl | hp
  · have RL := Lib.hid (Own.lit w w.heap.size 9 #[.string ⟨#[46]⟩] (Nat.le_refl _) (by show 1 ≤ maxLen; decide))
    have X := Lib.hid ((Ext.refl w).alloc (.cells #[.string ⟨#[46]⟩] 9))
    clear ih
    go_enter Try.func38, Try.ntmps38
    go_wp2_with fail
    go_ret
    exact ⟨_, rfl, RL.out, X.out⟩
  · have IH := Lib.hid (fun m (h : m < n) W => ih m h (by omega) W)
    clear ih
    have g0 : ((n : Int) == 0) = false := by simp; omega
    have nb : (n : Int) ≤ 4 := by omega
    go_enter Try.func38, Try.ntmps38
    go_wp2_with fail
    go_loopw [4, 3] (fun i v wr => ∃ k : Nat, k ≤ n ∧ i = .int .i64 k ∧ Hid (Own wr w.heap.size 9 v (txs (raw TL n k))) ∧ Hid (Ext w wr)) (fun i _ _ => n - (intOf i).toNat)
    case atStart => exact ⟨0, Nat.zero_le _, rfl, Own.nil _ _ _, Ext.refl _⟩
    case round =>
      obtain ⟨k, hk, rfl, HO, HX⟩ := hrel
      generalize wr = wk at *
      by_cases hlt : k < n
      · have h0 : (0 : Int) ≤ k := by omega
        have h1 : (k : Int) < n := by omega
        have EK : Hid ((n : Int) - 1 - k = ((n - 1 - k : Nat) : Int)) := by show _ = _; omega
        have RS := Lib.hid (raw_succ TL n k)
        have RB := Lib.hid (raw_le n k hn (by omega))
        have LA := Lib.hid (TL_le k (by omega))
        have LB := Lib.hid (TL_le (n - 1 - k) (by omega))
        have K4 : Hid (k ≤ 4) := by show _ ≤ _; omega
        have C1 := Lib.hid (IH.out k hlt)
        have CA : Hid (∀ T ∈ TL k, T.carets ≤ 900000000) := fun T hT => by rw [TL_carets k T hT]; omega
        have CB : Hid (∀ T ∈ TL (n - 1 - k), T.carets ≤ 900000000) := fun T hT => by rw [TL_carets _ T hT]; omega
        have C2 := Lib.hid (IH.out (n - 1 - k) (by omega))
        generalize raw TL n k = P at *
        generalize TL k = A at *
        generalize TL (n - 1 - k) = B at *
        go_wp2_with fail
        refine (C1.out _).mono ?_
        rintro e w1 ⟨v1, rfl, o1, x1⟩
        have K1 := Kp.fresh HO.out o1
        have O1 := HO.out.ext x1
        have X1 := HX.out.trans x1
        go_wp2_with fail
        rw [EK.out]
        refine (C2.out _).mono ?_
        rintro e w2 ⟨v2, rfl, o2, x2⟩
        have K2 := Lib.hid (Kp.fresh O1 o2)
        have K1 := Lib.hid (K1.ext x2)
        have O2 := Lib.hid (O1.ext x2)
        have X2 := Lib.hid (X1.trans x2)
        obtain ⟨A1, c1, rfl⟩ := o1.txs
        obtain ⟨A2, c2, rfl⟩ := o2.txs
        clear o1 o2 x1 x2 O1 X1 HO HX
        have la := LA.out
        have lb := LB.out
        go_wp2_with fail
        go_loopw [31, 3] (fun i v wr => ∃ i' : Nat, i' ≤ A.length ∧ i = .int .i64 i' ∧ Hid (Own wr w.heap.size 9 v (txs (P ++ rawJ (A.take i') B))) ∧ Hid (Ext w wr) ∧ Hid (Kp wr v (.slice A1 A.length c1) (txs A)) ∧ Hid (Kp wr v (.slice A2 B.length c2) (txs B))) (fun i _ _ => A.length - (intOf i).toNat)
        case atStart => exact ⟨0, Nat.zero_le _, rfl, (by rw [List.take_zero, show rawJ [] B = [] from rfl, List.append_nil]; exact O2.out), X2.out, K1.out, K2.out⟩
        case round =>
          obtain ⟨i, hi, rfl, HO, HX, HA, HB⟩ := hrel
          generalize wr = wi at *
          by_cases hil : i < A.length
          · have h2 : (0 : Int) ≤ i := by omega
            have h3 : (i : Int) < A.length := by omega
            have hg : A[i]? = some A[i] := List.getElem?_eq_getElem hil
            obtain ⟨ad, rfl, ca⟩ := HA.out.1.txs_cell hg
            have RT := Lib.hid (rawJ_take A B i _ hg)
            have RJ : Hid ((rawJ (A.take i) B).length ≤ 196) := by
              show _ ≤ _
              rw [rawJ_length]
              exact Nat.le_trans (Nat.mul_le_mul (show (A.take i).length ≤ 14 by rw [List.length_take]; omega) lb) (by decide)
            have TA : Hid (A[i].carets ≤ 900000000) := CA.out _ (List.getElem_mem _)
            generalize A[i] = ta at *
            generalize rawJ (A.take i) B = PJ at *
            go_wp2_with fail
            go_loopw [37, 3] (fun i v wr => ∃ j : Nat, j ≤ B.length ∧ i = .int .i64 j ∧ Hid (Own wr w.heap.size 9 v (txs (P ++ PJ ++ (B.take j).map (Tr.node ta)))) ∧ Hid (Ext w wr) ∧ Hid (Kp wr v (.slice (some ad) A.length c1) (txs A)) ∧ Hid (Kp wr v (.slice A2 B.length c2) (txs B))) (fun i _ _ => B.length - (intOf i).toNat)
            case atStart => exact ⟨0, Nat.zero_le _, rfl, (by rw [List.take_zero, List.map_nil, List.append_nil]; exact HO.out), HX.out, HA.out, HB.out⟩
            case round =>
              obtain ⟨j, hj, rfl, HO, HX, HA, HB⟩ := hrel
              generalize wr = wj at *
              by_cases hjl : j < B.length
              · have h4 : (0 : Int) ≤ j := by omega
                have h5 : (j : Int) < B.length := by omega
                have hg2 : B[j]? = some B[j] := List.getElem?_eq_getElem hjl
                obtain ⟨ad2, rfl, cb⟩ := HB.out.1.txs_cell hg2
                have RM := Lib.hid (mapN_take ta B j _ hg2)
                have TB : Hid (B[j].carets ≤ 900000000) := CB.out _ (List.getElem_mem _)
                have CT := Lib.hid (trOf_tx ta B[j] TA.out TB.out)
                have LL : Hid (((txs (P ++ PJ ++ (B.take j).map (Tr.node ta))).length + (txs [Tr.node ta B[j]]).length) * 16 ≤ 140737488355328) := by
                  show _ ≤ _
                  rw [txs_length, txs_length, List.length_append, List.length_append, List.length_map, List.length_take]
                  have := RB.out; have := RJ.out; have := K4.out
                  simp only [List.length_singleton]
                  omega
                generalize B[j] = tb at *
                go_wp2_with fail
                refine (CT.out _).mono ?_
                rintro e w3 ⟨rfl, rfl⟩
                have O3 := HO.out.ext ((Ext.refl wj).alloc (.cells #[.string (tx (.node ta tb))] 9))
                have X3 := HX.out.alloc (.cells #[.string (tx (.node ta tb))] 9)
                have KA3 := HA.out.ext ((Ext.refl wj).alloc (.cells #[.string (tx (.node ta tb))] 9))
                have KB3 := HB.out.ext ((Ext.refl wj).alloc (.cells #[.string (tx (.node ta tb))] 9))
                have R3 : Reads _ _ (txs [Tr.node ta tb]) := lit_readsS wj (tx (.node ta tb))
                have B3 := Lib.hid X3.size
                go_wp2_with (at_builtin; refine wpList_app rfl (.tmp 41) (.tmp 45) 53 rfl w.heap.size 9 (.string ⟨#[]⟩) 16 Try.underlying53 infoStr rfl (by omega) _ _ _ (txs [Tr.node ta tb]) rfl rfl O3 R3 (txs_one _) LL.out B3.out ?_; intro v4 w4 o4 g4 q4)
                have X4 := Lib.hid (X3.grown g4 O3.lo)
                have KA4 := Lib.hid (KA3.grown g4 q4)
                have KB4 := Lib.hid (KB3.grown g4 q4)
                rw [txs_append, List.append_assoc _ _ [Tr.node ta tb], ← RM.out] at o4
                have O4 := Lib.hid o4
                clear o4 g4 q4 O3 X3 KA3 KB3 R3
                go_wp2_with fail
                exact ⟨⟨j + 1, by omega, by go_num, O4.out, X4.out, KA4.out, KB4.out⟩, by simp [intOf]; omega⟩
              · have h4 : (B.length : Int) ≤ j := by omega
                obtain rfl : j = B.length := by omega
                have O5 := HO.out
                rw [List.take_length, List.append_assoc, ← RT.out] at O5
                have O5 := Lib.hid O5
                go_wp2_with fail
                exact ⟨⟨i + 1, by omega, by go_num, O5.out, HX.out, HA.out, HB.out⟩, by simp [intOf]; omega⟩
          · have h2 : (A.length : Int) ≤ i := by omega
            obtain rfl : i = A.length := by omega
            have O5 := HO.out
            rw [List.take_length, ← RS.out] at O5
            have O5 := Lib.hid O5
            go_wp2_with fail
            exact ⟨⟨k + 1, by omega, by go_num, O5.out, HX.out⟩, by simp [intOf]; omega⟩
      · have h1 : (n : Int) ≤ k := by omega
        obtain rfl : k = n := by omega
        obtain ⟨p, rfl⟩ : ∃ p, k = p + 1 := ⟨k - 1, by omega⟩
        have ES : Hid ((TL (p + 1)).map tx = srt ((raw TL (p + 1) (p + 1)).map tx)) := by show _ = _; rw [TL_succ, srtT_tx]
        have LR : Hid ((raw TL (p + 1) (p + 1)).length ≤ 800) := Nat.le_trans (raw_le (p + 1) (p + 1) hn (Nat.le_refl _)) (by omega)
        have HO := HO.out
        unfold txs at HO
        have LR : Hid (((raw TL (p + 1) (p + 1)).map tx).length ≤ 800) := by show _ ≤ _; rw [List.length_map]; exact LR.out
        generalize (raw TL (p + 1) (p + 1)).map tx = R at *
        obtain ⟨A, c, rfl, _, _⟩ := HO.reads
        have H0 : Hid (wk.ownsRow w.heap.size 9 1 (.slice A R.length c) R.length (strs (srt (R.take 1) ++ R.drop 1))) := by
          rw [srt_one]
          have h := HO
          unfold Own at h
          rw [strs_length] at h
          exact h
        have lr := LR.out
        rw [strs_length]
        clear HO
        go_wp2_with fail
        go_loopw [11] (fun i wr => ∃ m : Nat, 1 ≤ m ∧ (m ≤ R.length ∨ m = 1) ∧ i = .int .i64 m ∧ Hid (wr.ownsRow w.heap.size 9 1 (.slice A R.length c) R.length (strs (srt (R.take m) ++ R.drop m))) ∧ Hid (Ext w wr)) (fun i _ => R.length + 1 - (intOf i).toNat)
        case atStart => exact ⟨1, Nat.le_refl _, .inr rfl, rfl, H0.out, HX.out⟩
        case round =>
          obtain ⟨m, hm1, hm2, rfl, HO, HX⟩ := hrel
          generalize wr = wm at *
          by_cases hml : m < R.length
          · obtain ⟨g, c', e1, hgb⟩ := row_block HO.out (by omega)
            injection e1 with e2 e3 e4
            subst e2 e4
            have m0 : (0 : Int) ≤ m := by omega
            have m2 : (m : Int) < R.length := by omega
            have hr : R[m]? = some R[m] := List.getElem?_eq_getElem hml
            have SL : (srt (R.take m)).length = m := by rw [srt_length, List.length_take, Nat.min_eq_left (by omega)]
            have ct : wm.cell? ⟨g, m, none⟩ = some (.string R[m]) := by
              rw [World.ownsRow.cellAt HO.out m (by omega)]
              simp only [strs, List.map_append]; rw [List.getElem?_append_right (by rw [List.length_map, SL]; exact Nat.le_refl _), List.length_map, SL, Nat.sub_self]; simp [hr]
            have TS : Hid (srt (R.take (m + 1)) = ins R[m] (srt (R.take m))) := by show _ = _; rw [List.take_add_one, hr]; exact srt_snoc _ _
            have SS := Lib.hid (srt_srt (R.take m))
            have B0 : Hid (wm.ownsRow w.heap.size 9 1 (.slice (some ⟨g, 0, none⟩) R.length c) R.length (strs (bk (srt (R.take m)) m R[m] (R.drop (m + 1))))) := by
              have h := HO.out
              rw [show R.drop m = R[m] :: R.drop (m + 1) from List.drop_eq_getElem_cons hml] at h
              have : bk (srt (R.take m)) m R[m] (R.drop (m + 1)) = srt (R.take m) ++ R[m] :: R.drop (m + 1) := by
                unfold bk
                rw [List.take_of_length_le (by omega), List.drop_eq_nil_of_le (by omega), List.nil_append]
              rw [this]; exact h
            generalize srt (R.take m) = s at *
            generalize R[m] = t at *
            obtain ⟨r, hrr⟩ : ∃ r, R.drop (m + 1) = r := ⟨_, rfl⟩
            rw [hrr] at B0
            have HRR := Lib.hid hrr
            clear hrr
            clear HO e3
            go_wp2_with fail
            go_loopw [13] (fun i wr => ∃ j : Nat, j ≤ m ∧ i = .int .i64 j ∧ (∃ x, Hid (wr.ownsRow w.heap.size 9 1 (.slice (some ⟨g, 0, none⟩) R.length c) R.length (strs (bk s j x r)))) ∧ Hid (∀ i y, j ≤ i → s[i]? = some y → blt t y = true) ∧ Hid (Ext w wr)) (fun i _ => (intOf i).toNat)
            case atStart => exact ⟨m, Nat.le_refl _, rfl, ⟨_, B0.out⟩, (fun i y h1 h2 => by rw [List.getElem?_eq_none (by omega)] at h2; cases h2), HX.out⟩
            case round =>
              obtain ⟨j, hj, rfl, ⟨x, HO⟩, HB, HX⟩ := hrel
              generalize wr = wj at *
              have FIN : ∀ (W : World), W = wj → (∀ y, 0 < j → s[j - 1]? = some y → blt t y = false) → Hid ((wj.setCell ⟨g, j, none⟩ (.string t)).ownsRow w.heap.size 9 1 (.slice (some ⟨g, 0, none⟩) R.length c) R.length (strs (srt (R.take (m + 1)) ++ R.drop (m + 1)))) ∧ Hid (Ext w (wj.setCell ⟨g, j, none⟩ (.string t))) := by
                intro W _ h2
                obtain ⟨O1, g1⟩ := World.ownsRow.stored HO.out j (.string t)
                rw [bk_end s j x t r (by omega), ins_back t s j SS.out (by omega) HB.out h2, ← TS.out, ← HRR.out] at O1
                exact ⟨O1, HX.out.grown g1 (fun k hk => by injection hk with hk; omega)⟩
              have FIN := Lib.hid FIN
              obtain ⟨uu, cj⟩ := row_cell HO.out j (by omega)
              have fj := World.ownsRow.frozenAt HO.out j
              have j0 : (0 : Int) ≤ j := by omega
              have j1 : (j : Int) < R.length := by omega
              rcases Nat.eq_zero_or_pos j with hz | hz
              · subst hz
                obtain ⟨F1, F2⟩ := FIN.out _ rfl (fun y h => absurd h (Nat.lt_irrefl _))
                clear FIN HB
                go_wp2_with fail
                exact ⟨⟨m + 1, by omega, by omega, by go_num, F1.out, F2.out⟩, by simp [intOf]; omega⟩
              · obtain ⟨q, rfl⟩ : ∃ q, j = q + 1 := ⟨j - 1, by omega⟩
                have hq : s[q]? = some s[q] := List.getElem?_eq_getElem (by omega)
                have cq : wj.cell? ⟨g, q, none⟩ = some (.string s[q]) := by
                  rw [World.ownsRow.cellAt HO.out q (by omega)]
                  exact bk_at s q x _ r hq
                have EQ : Hid (((q + 1 : Nat) : Int) - 1 = (q : Int)) := by show _ = _; omega
                have q1 : (0 : Int) ≤ q ∧ (q : Int) < R.length := by omega
                obtain ⟨O1, g1⟩ := World.ownsRow.stored HO.out (q + 1) (.string s[q])
                rw [bk_step s q x _ r hq] at O1
                have O1 := Lib.hid O1
                have X1 := Lib.hid (HX.out.grown g1 (fun k hk => by injection hk with hk; omega))
                have hq := Lib.hid hq
                generalize s[q] = y at *
                cases hb : blt t y with
                | true =>
                  have HB2 : Hid (∀ i z, q ≤ i → s[i]? = some z → blt t z = true) := by
                    intro i z hi hz2
                    rcases Nat.lt_or_ge q i with h | h
                    · exact HB.out i z h hz2
                    · obtain rfl : i = q := by omega
                      rw [hq.out] at hz2; injection hz2 with hz2; rw [← hz2]; exact hb
                  have hb := gtr_true hb
                  clear FIN HB g1
                  go_wp2_with fail
                  exact ⟨⟨q, by omega, rfl, ⟨y, O1.out⟩, HB2.out, X1.out⟩, by simp [intOf]⟩
                | false =>
                  obtain ⟨F1, F2⟩ := FIN.out _ rfl (fun z _ h => by rw [show q + 1 - 1 = q from rfl, hq.out] at h; injection h with h; rw [← h]; exact hb)
                  have hb := gtr_false hb
                  clear FIN HB g1 O1 X1
                  go_wp2_with fail
                  exact ⟨⟨m + 1, by omega, by omega, by go_num, F1.out, F2.out⟩, by simp [intOf]; omega⟩
          · have m2 : (R.length : Int) ≤ m := by omega
            have O5 := HO.out
            rw [List.take_of_length_le (by omega), List.drop_eq_nil_of_le (by omega), List.append_nil] at O5
            have O5 := Lib.hid O5
            go_wp2_with fail
            go_ret
            exact ⟨_, rfl, (by unfold Own txs; rw [ES.out, strs_length, srt_length]; exact O5.out), HX.out⟩
end Go.Proofs.Ytfjhecilkeikiaa.N
/- Texts sorted, twice the same ones left out: the reference's. -/
namespace Go.Proofs.Ytfjhecilkeikiaa.N
open Go.RowKit
set_option linter.unusedVariables false
set_option linter.unusedSimpArgs false

theorem strs_take2 (l : List ByteArray) (k : Nat) : strs (l.take k) = (strs l).take k := by simp [strs, List.map_take]
theorem strs_drop2 (l : List ByteArray) (k : Nat) : strs (l.drop k) = (strs l).drop k := by simp [strs, List.map_drop]
/-- The two parts of a slice of texts. -/
theorem cut2 {w : World} {ad : Addr} {n c : Nat} {l : List ByteArray} (h : Reads w (.slice (some ad) n c) (strs l)) (hn : l.length = n) (k : Nat) (hk : k < n) :
    Reads w (.slice (some ad) k c) (strs (l.take k)) ∧ Reads w (.slice (some (ad.add k)) (n - k) (c - k)) (strs (l.drop k)) := by
  obtain ⟨B, d, e, _, hr⟩ := h
  injection e with e1 e2 e3
  subst e1 e3
  clear e2
  obtain ⟨ad', e4, ca⟩ := hr (by rw [strs_length]; omega)
  injection e4 with e4
  subst e4
  refine ⟨⟨_, c, by rw [strs_length, List.length_take, hn, Nat.min_eq_left (by omega)], (fun h => by cases h), fun _ => ⟨ad, rfl, fun j u hu => ?_⟩⟩, ⟨_, c - k, by rw [strs_length, List.length_drop, hn], (fun h => by cases h), fun _ => ⟨_, rfl, fun j u hu => ?_⟩⟩⟩
  · rw [strs_take2] at hu
    have hj : j < k := by have := (List.getElem?_eq_some_iff.1 hu).1; rw [List.length_take] at this; omega
    rw [List.getElem?_take_of_lt hj] at hu
    exact ca j u hu
  · rw [strs_drop2, List.getElem?_drop] at hu
    rw [Go.Addr.add_add]
    exact ca (k + j) u hu
/-- Two lists in order, merged. -/
def mrg : List ByteArray → List ByteArray → List ByteArray
  | [], b => b
  | x :: a, [] => x :: a
  | x :: a, y :: b => if blt y x then y :: mrg (x :: a) b else x :: mrg a (y :: b)
termination_by a b => a.length + b.length
theorem mrg_nil : ∀ a, mrg a [] = a
  | [] => by rw [mrg]
  | x :: a => by rw [mrg]
theorem mrg_l (x : ByteArray) (a b : List ByteArray) (h : ∀ y, b[0]? = some y → blt y x = false) : mrg (x :: a) b = x :: mrg a b := by
  cases b with
  | nil => rw [mrg_nil, mrg_nil]
  | cons y b => rw [mrg, h y rfl]; rfl
theorem mrg_r (y : ByteArray) (a b : List ByteArray) (h : ∀ x, a[0]? = some x → blt y x = true) : mrg a (y :: b) = y :: mrg a b := by
  cases a with
  | nil => rw [mrg, mrg]
  | cons x a => rw [mrg, h x rfl]; rfl
theorem mrg_perm : ∀ a b, (mrg a b).Perm (a ++ b)
  | [], b => by rw [mrg]; exact List.Perm.refl _
  | x :: a, [] => by rw [mrg, List.append_nil]
  | x :: a, y :: b => by
    rw [mrg]
    split
    · exact ((mrg_perm (x :: a) b).cons y).trans (List.perm_middle (l₁ := x :: a)).symm
    · exact (mrg_perm a (y :: b)).cons x
termination_by a b => a.length + b.length
theorem mrg_srt : ∀ a b, Srt a → Srt b → Srt (mrg a b)
  | [], b, _, h => by rw [mrg]; exact h
  | x :: a, [], h, _ => by rw [mrg]; exact h
  | x :: a, y :: b, h1, h2 => by
    have p1 := List.pairwise_cons.1 h1
    have p2 := List.pairwise_cons.1 h2
    rw [mrg]
    split
    · rename_i hy
      refine List.pairwise_cons.2 ⟨fun z hz => ?_, mrg_srt (x :: a) b h1 p2.2⟩
      rcases List.mem_append.1 ((mrg_perm (x :: a) b).mem_iff.1 hz) with hz | hz
      · have hxy : blt x y = false := by
          cases h : blt x y with
          | false => rfl
          | true => have := blt_trans h hy; rw [blt_irrefl] at this; cases this
        rcases List.mem_cons.1 hz with rfl | hz
        · exact hxy
        · exact blt_ntrans (p1.1 z hz) hxy
      · exact p2.1 z hz
    · rename_i hy
      have hy : blt y x = false := by simpa using hy
      refine List.pairwise_cons.2 ⟨fun z hz => ?_, mrg_srt a (y :: b) p1.2 h2⟩
      rcases List.mem_append.1 ((mrg_perm a (y :: b)).mem_iff.1 hz) with hz | hz
      · exact p1.1 z hz
      · rcases List.mem_cons.1 hz with rfl | hz
        · exact hy
        · exact blt_ntrans (p2.1 z hz) hy
termination_by a b => a.length + b.length
theorem mrg_parts (l : List ByteArray) (k : Nat) : mrg (srt (l.take k)) (srt (l.drop k)) = srt l := by
  refine srt_unique _ _ ?_ (mrg_srt _ _ (srt_srt _) (srt_srt _)) (srt_srt l)
  refine (mrg_perm _ _).trans (List.Perm.trans ?_ (srt_perm l).symm)
  refine ((srt_perm _).append (srt_perm _)).trans ?_
  rw [List.take_append_drop]
theorem _root_.List.getElem?_drop_zero2 {α : Type} (l : List α) (r : Nat) : (l.drop r)[0]? = l[r]? := by rw [List.getElem?_drop, Nat.add_zero]
theorem srt_short (l : List ByteArray) (h : l.length < 2) : srt l = l := by
  match l, h with
  | [], _ => rfl
  | [a], _ => rfl
  | _ :: _ :: _, h => exact absurd h (by simp)
set_option maxHeartbeats 12800000 in
set_option maxRecDepth 100000 in
theorem lnSorted_calls (N : Nat) : ∀ (l : List ByteArray) (hl : l.length = N) (h1 : l.length ≤ 1000) (hd : l.Nodup) (A : Option Addr) (c : Nat) (hc : l.length ≤ c) (w : World) (hr : Reads w (.slice A l.length c) (strs l)),
    Calls Try.prog 73 #[.slice A l.length c] w fun e w' => ∃ v, e = .returned v ∧ Reads w' v (strs (srt l)) ∧ (v = .slice A l.length c ∨ ∀ k, v.ownBlock = some k → w.heap.size ≤ k ∧ k < w'.heap.size) ∧ Ext w w' := by
  induction N using Nat.strongRecOn with
  | _ N ih =>
  intro l hl h1 hd A c hc w hr
  by_cases hs : l.length < 2
  · have hr := Lib.hid hr
    have ES := Lib.hid (srt_short l hs)
    have hs' : (l.length : Int) < 2 := by omega
    clear ih
    go_enter Try.func73, Try.ntmps73
    go_wp2_with fail
    go_ret
    exact ⟨_, rfl, (by rw [ES.out]; exact hr.out), .inl rfl, Ext.refl _⟩
  · obtain ⟨k, hk⟩ : ∃ k, l.length / 2 = k := ⟨_, rfl⟩
    obtain ⟨ad, rfl⟩ : ∃ ad, A = some ad := by
      obtain ⟨B, d, e, _, hh⟩ := hr
      injection e with e1 _ _
      subst e1
      obtain ⟨ad, rfl, _⟩ := hh (by rw [strs_length]; omega)
      exact ⟨ad, rfl⟩
    obtain ⟨ra, rb⟩ := cut2 hr rfl k (by omega)
    have CA := Lib.hid (fun W (h : Ext w W) => ih k (by omega) (l.take k) (by rw [List.length_take]; omega) (by rw [List.length_take]; omega) (hd.sublist (List.take_sublist k l)) (some ad) c (by rw [List.length_take]; omega) W (by rw [List.length_take, Nat.min_eq_left (by omega)]; exact ra.ext h))
    have CB := Lib.hid (fun W (h : Ext w W) => ih (l.length - k) (by omega) (l.drop k) (by rw [List.length_drop]) (by rw [List.length_drop]; omega) (hd.sublist (List.drop_sublist k l)) (some (ad.add k)) (c - k) (by rw [List.length_drop]; omega) W (by rw [List.length_drop]; exact rb.ext h))
    rw [List.length_take, Nat.min_eq_left (by omega)] at CA
    rw [List.length_drop] at CB
    have MP := Lib.hid (mrg_parts l k)
    have MN : Hid (srt l).Nodup := (srt_perm l).nodup_iff.2 hd
    have LS := srt_length l
    have LA : (srt (l.take k)).length = k := by rw [srt_length, List.length_take]; omega
    have LB : (srt (l.drop k)).length = l.length - k := by rw [srt_length, List.length_drop]
    have s2 : ¬ ((l.length : Int) < 2) := by omega
    have sk : (l.length : Int) / 2 = (k : Int) := by omega
    have kb : (k : Int) ≤ l.length := by omega
    have kc : (k : Int) ≤ c := by omega
    have lc : (l.length : Int) ≤ c := by omega
    have sk2 : Int.tdiv (l.length : Int) 2 = (k : Int) := by rw [Int.tdiv_eq_ediv_of_nonneg (by omega)]; exact sk
    have k1000 : (k : Int) ≤ 1000 ∧ (l.length : Int) ≤ 1000 := by omega
    have hw2 : IntKind.i64.wrap (k : Int) = k := by simp [IntKind.wrap, IntKind.bits, IntKind.signed]; omega
    have b0 : ¬ c = 0 := by omega
    have b1 : ¬ c = k := by omega
    have k0 : (0 : Int) ≤ k := by omega
    subst hl
    clear ih ra rb hr
    generalize srt (l.take k) = a at *
    generalize srt (l.drop k) = b at *
    generalize srt l = M at *
    generalize l.length = n at *
    have X0 : Ext w w.drew := (Ext.refl w).drew
    go_enter Try.func73, Try.ntmps73
    go_wp2_with fail
    go_region_held3 (fun w' => Ext w w')
      (first | with_reducible exact X0 | with_reducible exact x1 | with_reducible exact x2 | fail)
      (first
        | (go_at_call 73; (with_reducible refine (CA.out _ X0).mono ?_); rintro e w1 ⟨v1, rfl, r1, _, hx1⟩; have x1 := X0.trans hx1)
        | (go_at_call 73; (with_reducible refine (CB.out _ x1).mono ?_); rintro e w2 ⟨v2, rfl, r2, _, hx2⟩; have x2 := x1.trans hx2)
        | fail)
    have RA := Lib.hid (r1.ext hx2)
    have RB := Lib.hid r2
    have X2 := Lib.hid x2
    obtain ⟨A1, c1, e1, _, _⟩ := r1
    obtain ⟨A2, c2, e2, _, _⟩ := r2
    rw [strs_length] at e1 e2
    subst e1 e2
    clear x1 x2 hx1 hx2 X0 CA CB
    have al : (a.length : Int) ≤ 1000 := by omega
    have bl : (b.length : Int) ≤ 1000 := by omega
    have ML : Hid (M.length = a.length + b.length) := by show _ = _; omega
    have lm : M.length ≤ 1000 := by omega
    clear LA LB LS
    go_wp2_with fail
    go_loopw [5, 6, 7] (fun o i j wr => ∃ p q : Nat, p ≤ a.length ∧ q ≤ b.length ∧ i = .int .i64 p ∧ j = .int .i64 q ∧ Hid (Own wr w2.heap.size 9 o (strs (M.take (p + q)))) ∧ Hid (mrg (a.drop p) (b.drop q) = M.drop (p + q)) ∧ Hid (Ext w2 wr)) (fun _ i j _ => a.length + b.length - ((intOf i).toNat + (intOf j).toNat))
    case atStart => exact ⟨0, 0, Nat.zero_le _, Nat.zero_le _, rfl, rfl, Own.nil _ _ _, MP.out, Ext.refl _⟩
    case round =>
      obtain ⟨p, q, hp, hq, rfl, rfl, HO, HM, HX⟩ := hrel
      have p0 : (0 : Int) ≤ p := by omega
      have q0 : (0 : Int) ≤ q := by omega
      obtain ⟨r, hr⟩ : ∃ r, p + q = r := ⟨_, rfl⟩
      rw [hr] at HO HM
      have HR := Lib.hid hr
      by_cases hpl : p < a.length
      · have p1 : (p : Int) < a.length := by omega
        have gx : a[p]? = some a[p] := List.getElem?_eq_getElem hpl
        obtain ⟨_, _, e1, _, ha⟩ := RA.out.ext HX.out
        injection e1 with e2 e4 e3
        subst e2 e3
        clear e4
        obtain ⟨ad1, rfl, ca⟩ := ha (by rw [strs_length]; omega)
        have cx := ca p _ (by rw [strs_get a p hpl])
        have DA : a.drop p = a[p] :: a.drop (p + 1) := List.drop_eq_getElem_cons hpl
        clear ca ha
        have HR := Lib.hid hr
        by_cases hql : q < b.length
        · have q1 : (q : Int) < b.length := by omega
          have q2 : ((q : Int) == b.length) = false := by simp; omega
          have q3 : decide ((q : Int) = b.length) = false := decide_eq_false (by omega)
          have q4 : decide (q = b.length) = false := decide_eq_false (by omega)
          obtain ⟨_, _, e1, _, hb⟩ := RB.out.ext HX.out
          injection e1 with e2 e4 e3
          subst e2 e3
          clear e4
          obtain ⟨ad2, rfl, cb⟩ := hb (by rw [strs_length]; omega)
          have cy := cb q _ (by rw [strs_get b q hql])
          have DB : b.drop q = b[q] :: b.drop (q + 1) := List.drop_eq_getElem_cons hql
          clear cb hb
          generalize a[p] = x at *
          generalize b[q] = y at *
          have KX : ∀ w', Ext wr w' → w'.cell? (ad1.add p) = some (.string x) ∧ w'.cell? (ad2.add q) = some (.string y) := fun w' h => ⟨h.cell cx, h.cell cy⟩
          cases hxy : blt y x with
          | false =>
            have MX := HM.out
            rw [DA, mrg_l x _ _ (fun z hz => by rw [DB] at hz; injection hz with hz; rw [← hz]; exact hxy)] at MX
            have MZ : Hid (M[r]? = some x) := by show _ = _; rw [← List.getElem?_drop_zero2, ← MX]; rfl
            have MD : Hid (mrg (a.drop (p + 1)) (b.drop q) = M.drop (r + 1)) := by show _ = _; rw [← List.tail_drop (i := r), ← MX]; rfl
            have hg : (Op.bytesLess x.toList y.toList || x.toList == y.toList) = true := gtr_false hxy
            clear MX DA DB gx hxy hr
            go_wp2_with fail
            go_quiet (fail)
            have HO := Lib.hid (HO.out.ext ((Ext.refl wr).drewN nq))
            have HX := Lib.hid (HX.out.drewN nq)
            have cc := KX _ ((Ext.refl wr).drewN nq)
            have cx := cc.1
            have cy := cc.2
            clear KX cc
            generalize wr.drewN nq = wd at *
            have MG : M[r]? = some x := MZ.out
            have rM : r < M.length := (List.getElem?_eq_some_iff.1 MG).1
            have MT : Hid (strs (M.take r) ++ strs [x] = strs (M.take (r + 1))) := by
              show _ = _
              rw [strs_append, List.take_add_one, MG]; rfl
            have LT : (M.take r).length = r := by rw [List.length_take]; omega
            have HO1 := HO.out
            clear HO
            obtain ⟨A5, c5, e5, _, rd5⟩ := HO1.reads
            rw [strs_length, LT] at e5 rd5
            subst e5
            have HO := Lib.hid HO1
            clear HO1
            have R3 := Lib.hid (fun W : World => lit_readsS W x)
            have LL : Hid (((strs (M.take r)).length + (strs [x]).length) * 16 ≤ 140737488355328) := by
              show _ ≤ _
              rw [strs_length, LT, strs_length]; simp only [List.length_singleton]; omega
            have O3 := HO.out.ext ((Ext.refl wd).alloc (.cells #[.string x] 9))
            have X3 := HX.out.alloc (.cells #[.string x] 9)
            have R3 := lit_readsS wd x
            have B3 := Lib.hid X3.size
            rcases Nat.eq_zero_or_pos r with hr0 | hr0
            · have r0 : (r : Int) = 0 := by omega
              have r00 : ((r : Int) == 0) = true := by rw [r0]; rfl
              go_wp2_with (at_builtin; refine wpList_app rfl (.tmp 81) (.tmp 83) 53 rfl w2.heap.size 9 (.string ⟨#[]⟩) 16 Try.underlying53 infoStr rfl (by omega) _ _ _ (strs [x]) rfl rfl O3 R3 (strs_one _) LL.out B3.out ?_; intro v4 w4 o4 g4 q4)
              have X4 := Lib.hid (X3.grown g4 O3.lo)
              rw [MT.out] at o4
              have O4 := Lib.hid o4
              clear o4 g4 q4 O3 X3 R3
              go_wp2_with fail
              exact ⟨⟨p + 1, q, by omega, by omega, by go_num, rfl, (by rw [show p + 1 + q = r + 1 by have := HR.out; omega]; exact O4.out), (by rw [show p + 1 + q = r + 1 by have := HR.out; omega]; exact MD.out), X4.out⟩, by simp [intOf]; omega⟩
            · obtain ⟨ad5, rfl, ca5⟩ := rd5 (by omega)
              obtain ⟨t, rfl⟩ : ∃ t, r = t + 1 := ⟨r - 1, by omega⟩
              have hm : M[t]? = some M[t] := List.getElem?_eq_getElem (by omega)
              have ct := ca5 t (.string M[t]) (by simp [strs, List.getElem?_take, hm])
              have hne : ¬ M[t] = x := fun h => (List.pairwise_iff_getElem.1 MN.out t (t + 1) (by omega) rM (by omega)) (h.trans (List.getElem?_eq_some_iff.1 MG).2.symm)
              have r0 : (((t + 1 : Nat) : Int) == 0) = false := by simp; omega
              have r1 : (0 : Int) ≤ t ∧ (t : Int) < ((t + 1 : Nat) : Int) := by omega
              have hnl : (M[t].toList == x.toList) = false := by
                cases h : (M[t].toList == x.toList) with
                | false => rfl
                | true => exact absurd (ba_ext (eq_of_beq h)) hne
              generalize M[t] = u at *
              go_wp2_with (at_builtin; refine wpList_app rfl (.tmp 81) (.tmp 83) 53 rfl w2.heap.size 9 (.string ⟨#[]⟩) 16 Try.underlying53 infoStr rfl (by omega) _ _ _ (strs [x]) rfl rfl O3 R3 (strs_one _) LL.out B3.out ?_; intro v4 w4 o4 g4 q4)
              have X4 := Lib.hid (X3.grown g4 O3.lo)
              rw [MT.out] at o4
              have O4 := Lib.hid o4
              clear o4 g4 q4 O3 X3 R3
              go_wp2_with fail
              exact ⟨⟨p + 1, q, by omega, by omega, by go_num, rfl, (by rw [show p + 1 + q = t + 1 + 1 by have := HR.out; omega]; exact O4.out), (by rw [show p + 1 + q = t + 1 + 1 by have := HR.out; omega]; exact MD.out), X4.out⟩, by simp [intOf]; omega⟩
          | true =>
            have MX := HM.out
            rw [DB, mrg_r y _ _ (fun z hz => by rw [DA] at hz; injection hz with hz; rw [← hz]; exact hxy)] at MX
            have MZ : Hid (M[r]? = some y) := by show _ = _; rw [← List.getElem?_drop_zero2, ← MX]; rfl
            have MD : Hid (mrg (a.drop p) (b.drop (q + 1)) = M.drop (r + 1)) := by show _ = _; rw [← List.tail_drop (i := r), ← MX]; rfl
            have hg : (Op.bytesLess x.toList y.toList || x.toList == y.toList) = false := gtr_true hxy
            clear MX DA DB gx hxy hr
            go_wp2_with fail
            go_quiet (fail)
            have HO := Lib.hid (HO.out.ext ((Ext.refl wr).drewN nq))
            have HX := Lib.hid (HX.out.drewN nq)
            have cc := KX _ ((Ext.refl wr).drewN nq)
            have cx := cc.1
            have cy := cc.2
            clear KX cc
            generalize wr.drewN nq = wd at *
            have MG : M[r]? = some y := MZ.out
            have rM : r < M.length := (List.getElem?_eq_some_iff.1 MG).1
            have MT : Hid (strs (M.take r) ++ strs [y] = strs (M.take (r + 1))) := by
              show _ = _
              rw [strs_append, List.take_add_one, MG]; rfl
            have LT : (M.take r).length = r := by rw [List.length_take]; omega
            have HO1 := HO.out
            clear HO
            obtain ⟨A5, c5, e5, _, rd5⟩ := HO1.reads
            rw [strs_length, LT] at e5 rd5
            subst e5
            have HO := Lib.hid HO1
            clear HO1
            have R3 := Lib.hid (fun W : World => lit_readsS W y)
            have LL : Hid (((strs (M.take r)).length + (strs [y]).length) * 16 ≤ 140737488355328) := by
              show _ ≤ _
              rw [strs_length, LT, strs_length]; simp only [List.length_singleton]; omega
            have O3 := HO.out.ext ((Ext.refl wd).alloc (.cells #[.string y] 9))
            have X3 := HX.out.alloc (.cells #[.string y] 9)
            have R3 := lit_readsS wd y
            have B3 := Lib.hid X3.size
            rcases Nat.eq_zero_or_pos r with hr0 | hr0
            · have r0 : (r : Int) = 0 := by omega
              have r00 : ((r : Int) == 0) = true := by rw [r0]; rfl
              go_wp2_with (at_builtin; refine wpList_app rfl (.tmp 81) (.tmp 83) 53 rfl w2.heap.size 9 (.string ⟨#[]⟩) 16 Try.underlying53 infoStr rfl (by omega) _ _ _ (strs [y]) rfl rfl O3 R3 (strs_one _) LL.out B3.out ?_; intro v4 w4 o4 g4 q4)
              have X4 := Lib.hid (X3.grown g4 O3.lo)
              rw [MT.out] at o4
              have O4 := Lib.hid o4
              clear o4 g4 q4 O3 X3 R3
              go_wp2_with fail
              exact ⟨⟨p, q + 1, by omega, by omega, rfl, by go_num, (by rw [show p + (q + 1) = r + 1 by have := HR.out; omega]; exact O4.out), (by rw [show p + (q + 1) = r + 1 by have := HR.out; omega]; exact MD.out), X4.out⟩, by simp [intOf]; omega⟩
            · obtain ⟨ad5, rfl, ca5⟩ := rd5 (by omega)
              obtain ⟨t, rfl⟩ : ∃ t, r = t + 1 := ⟨r - 1, by omega⟩
              have hm : M[t]? = some M[t] := List.getElem?_eq_getElem (by omega)
              have ct := ca5 t (.string M[t]) (by simp [strs, List.getElem?_take, hm])
              have hne : ¬ M[t] = y := fun h => (List.pairwise_iff_getElem.1 MN.out t (t + 1) (by omega) rM (by omega)) (h.trans (List.getElem?_eq_some_iff.1 MG).2.symm)
              have r0 : (((t + 1 : Nat) : Int) == 0) = false := by simp; omega
              have r1 : (0 : Int) ≤ t ∧ (t : Int) < ((t + 1 : Nat) : Int) := by omega
              have hnl : (M[t].toList == y.toList) = false := by
                cases h : (M[t].toList == y.toList) with
                | false => rfl
                | true => exact absurd (ba_ext (eq_of_beq h)) hne
              generalize M[t] = u at *
              go_wp2_with (at_builtin; refine wpList_app rfl (.tmp 81) (.tmp 83) 53 rfl w2.heap.size 9 (.string ⟨#[]⟩) 16 Try.underlying53 infoStr rfl (by omega) _ _ _ (strs [y]) rfl rfl O3 R3 (strs_one _) LL.out B3.out ?_; intro v4 w4 o4 g4 q4)
              have X4 := Lib.hid (X3.grown g4 O3.lo)
              rw [MT.out] at o4
              have O4 := Lib.hid o4
              clear o4 g4 q4 O3 X3 R3
              go_wp2_with fail
              exact ⟨⟨p, q + 1, by omega, by omega, rfl, by go_num, (by rw [show p + (q + 1) = t + 1 + 1 by have := HR.out; omega]; exact O4.out), (by rw [show p + (q + 1) = t + 1 + 1 by have := HR.out; omega]; exact MD.out), X4.out⟩, by simp [intOf]; omega⟩
        · have q1 : (b.length : Int) ≤ q := by omega
          obtain rfl : q = b.length := by omega
          have q2 : ((b.length : Int) == b.length) = true := by simp
          generalize a[p] = x at *
          have KX : ∀ w', Ext wr w' → w'.cell? (ad1.add p) = some (.string x) := fun w' h => h.cell cx
          have MX := HM.out
          rw [DA, mrg_l x _ _ (fun z hz => by rw [List.drop_length] at hz; cases hz)] at MX
          have MZ : Hid (M[r]? = some x) := by show _ = _; rw [← List.getElem?_drop_zero2, ← MX]; rfl
          have MD : Hid (mrg (a.drop (p + 1)) (b.drop b.length) = M.drop (r + 1)) := by show _ = _; rw [← List.tail_drop (i := r), ← MX]; rfl
          clear MX DA gx hr
          go_wp2_with fail
          go_quiet (fail)
          have HO := Lib.hid (HO.out.ext ((Ext.refl wr).drewN nq))
          have HX := Lib.hid (HX.out.drewN nq)
          have cc := KX _ ((Ext.refl wr).drewN nq)
          have cx := cc
          clear KX cc
          generalize wr.drewN nq = wd at *
          have MG : M[r]? = some x := MZ.out
          have rM : r < M.length := (List.getElem?_eq_some_iff.1 MG).1
          have MT : Hid (strs (M.take r) ++ strs [x] = strs (M.take (r + 1))) := by
            show _ = _
            rw [strs_append, List.take_add_one, MG]; rfl
          have LT : (M.take r).length = r := by rw [List.length_take]; omega
          have HO1 := HO.out
          clear HO
          obtain ⟨A5, c5, e5, _, rd5⟩ := HO1.reads
          rw [strs_length, LT] at e5 rd5
          subst e5
          have HO := Lib.hid HO1
          clear HO1
          have R3 := Lib.hid (fun W : World => lit_readsS W x)
          have LL : Hid (((strs (M.take r)).length + (strs [x]).length) * 16 ≤ 140737488355328) := by
            show _ ≤ _
            rw [strs_length, LT, strs_length]; simp only [List.length_singleton]; omega
          have O3 := HO.out.ext ((Ext.refl wd).alloc (.cells #[.string x] 9))
          have X3 := HX.out.alloc (.cells #[.string x] 9)
          have R3 := lit_readsS wd x
          have B3 := Lib.hid X3.size
          rcases Nat.eq_zero_or_pos r with hr0 | hr0
          · have r0 : (r : Int) = 0 := by omega
            have r00 : ((r : Int) == 0) = true := by rw [r0]; rfl
            go_wp2_with (at_builtin; refine wpList_app rfl (.tmp 81) (.tmp 83) 53 rfl w2.heap.size 9 (.string ⟨#[]⟩) 16 Try.underlying53 infoStr rfl (by omega) _ _ _ (strs [x]) rfl rfl O3 R3 (strs_one _) LL.out B3.out ?_; intro v4 w4 o4 g4 q4)
            have X4 := Lib.hid (X3.grown g4 O3.lo)
            rw [MT.out] at o4
            have O4 := Lib.hid o4
            clear o4 g4 q4 O3 X3 R3
            go_wp2_with fail
            exact ⟨⟨p + 1, b.length, by omega, by omega, by go_num, rfl, (by rw [show p + 1 + b.length = r + 1 by have := HR.out; omega]; exact O4.out), (by rw [show p + 1 + b.length = r + 1 by have := HR.out; omega]; exact MD.out), X4.out⟩, by simp [intOf]; omega⟩
          · obtain ⟨ad5, rfl, ca5⟩ := rd5 (by omega)
            obtain ⟨t, rfl⟩ : ∃ t, r = t + 1 := ⟨r - 1, by omega⟩
            have hm : M[t]? = some M[t] := List.getElem?_eq_getElem (by omega)
            have ct := ca5 t (.string M[t]) (by simp [strs, List.getElem?_take, hm])
            have hne : ¬ M[t] = x := fun h => (List.pairwise_iff_getElem.1 MN.out t (t + 1) (by omega) rM (by omega)) (h.trans (List.getElem?_eq_some_iff.1 MG).2.symm)
            have r0 : (((t + 1 : Nat) : Int) == 0) = false := by simp; omega
            have r1 : (0 : Int) ≤ t ∧ (t : Int) < ((t + 1 : Nat) : Int) := by omega
            have hnl : (M[t].toList == x.toList) = false := by
              cases h : (M[t].toList == x.toList) with
              | false => rfl
              | true => exact absurd (ba_ext (eq_of_beq h)) hne
            generalize M[t] = u at *
            go_wp2_with (at_builtin; refine wpList_app rfl (.tmp 81) (.tmp 83) 53 rfl w2.heap.size 9 (.string ⟨#[]⟩) 16 Try.underlying53 infoStr rfl (by omega) _ _ _ (strs [x]) rfl rfl O3 R3 (strs_one _) LL.out B3.out ?_; intro v4 w4 o4 g4 q4)
            have X4 := Lib.hid (X3.grown g4 O3.lo)
            rw [MT.out] at o4
            have O4 := Lib.hid o4
            clear o4 g4 q4 O3 X3 R3
            go_wp2_with fail
            exact ⟨⟨p + 1, b.length, by omega, by omega, by go_num, rfl, (by rw [show p + 1 + b.length = t + 1 + 1 by have := HR.out; omega]; exact O4.out), (by rw [show p + 1 + b.length = t + 1 + 1 by have := HR.out; omega]; exact MD.out), X4.out⟩, by simp [intOf]; omega⟩
      · have p1 : (a.length : Int) ≤ p := by omega
        obtain rfl : p = a.length := by omega
        have HR := Lib.hid hr
        by_cases hql : q < b.length
        · have q1 : (q : Int) < b.length := by omega
          have q2 : ((q : Int) == b.length) = false := by simp; omega
          have q3 : decide ((q : Int) = b.length) = false := decide_eq_false (by omega)
          have q4 : decide (q = b.length) = false := decide_eq_false (by omega)
          obtain ⟨_, _, e1, _, hb⟩ := RB.out.ext HX.out
          injection e1 with e2 e4 e3
          subst e2 e3
          clear e4
          obtain ⟨ad2, rfl, cb⟩ := hb (by rw [strs_length]; omega)
          have cy := cb q _ (by rw [strs_get b q hql])
          have DB : b.drop q = b[q] :: b.drop (q + 1) := List.drop_eq_getElem_cons hql
          clear cb hb
          generalize b[q] = y at *
          have KX : ∀ w', Ext wr w' → w'.cell? (ad2.add q) = some (.string y) := fun w' h => h.cell cy
          have MX := HM.out
          rw [DB, mrg_r y _ _ (fun z hz => by rw [List.drop_length] at hz; cases hz)] at MX
          have MZ : Hid (M[r]? = some y) := by show _ = _; rw [← List.getElem?_drop_zero2, ← MX]; rfl
          have MD : Hid (mrg (a.drop a.length) (b.drop (q + 1)) = M.drop (r + 1)) := by show _ = _; rw [← List.tail_drop (i := r), ← MX]; rfl
          clear MX DB hr
          go_wp2_with fail
          go_quiet (fail)
          have HO := Lib.hid (HO.out.ext ((Ext.refl wr).drewN nq))
          have HX := Lib.hid (HX.out.drewN nq)
          have cc := KX _ ((Ext.refl wr).drewN nq)
          have cy := cc
          clear KX cc
          generalize wr.drewN nq = wd at *
          have MG : M[r]? = some y := MZ.out
          have rM : r < M.length := (List.getElem?_eq_some_iff.1 MG).1
          have MT : Hid (strs (M.take r) ++ strs [y] = strs (M.take (r + 1))) := by
            show _ = _
            rw [strs_append, List.take_add_one, MG]; rfl
          have LT : (M.take r).length = r := by rw [List.length_take]; omega
          have HO1 := HO.out
          clear HO
          obtain ⟨A5, c5, e5, _, rd5⟩ := HO1.reads
          rw [strs_length, LT] at e5 rd5
          subst e5
          have HO := Lib.hid HO1
          clear HO1
          have R3 := Lib.hid (fun W : World => lit_readsS W y)
          have LL : Hid (((strs (M.take r)).length + (strs [y]).length) * 16 ≤ 140737488355328) := by
            show _ ≤ _
            rw [strs_length, LT, strs_length]; simp only [List.length_singleton]; omega
          have O3 := HO.out.ext ((Ext.refl wd).alloc (.cells #[.string y] 9))
          have X3 := HX.out.alloc (.cells #[.string y] 9)
          have R3 := lit_readsS wd y
          have B3 := Lib.hid X3.size
          rcases Nat.eq_zero_or_pos r with hr0 | hr0
          · have r0 : (r : Int) = 0 := by omega
            have r00 : ((r : Int) == 0) = true := by rw [r0]; rfl
            go_wp2_with (at_builtin; refine wpList_app rfl (.tmp 81) (.tmp 83) 53 rfl w2.heap.size 9 (.string ⟨#[]⟩) 16 Try.underlying53 infoStr rfl (by omega) _ _ _ (strs [y]) rfl rfl O3 R3 (strs_one _) LL.out B3.out ?_; intro v4 w4 o4 g4 q4)
            have X4 := Lib.hid (X3.grown g4 O3.lo)
            rw [MT.out] at o4
            have O4 := Lib.hid o4
            clear o4 g4 q4 O3 X3 R3
            go_wp2_with fail
            exact ⟨⟨a.length, q + 1, by omega, by omega, rfl, by go_num, (by rw [show a.length + (q + 1) = r + 1 by have := HR.out; omega]; exact O4.out), (by rw [show a.length + (q + 1) = r + 1 by have := HR.out; omega]; exact MD.out), X4.out⟩, by simp [intOf]; omega⟩
          · obtain ⟨ad5, rfl, ca5⟩ := rd5 (by omega)
            obtain ⟨t, rfl⟩ : ∃ t, r = t + 1 := ⟨r - 1, by omega⟩
            have hm : M[t]? = some M[t] := List.getElem?_eq_getElem (by omega)
            have ct := ca5 t (.string M[t]) (by simp [strs, List.getElem?_take, hm])
            have hne : ¬ M[t] = y := fun h => (List.pairwise_iff_getElem.1 MN.out t (t + 1) (by omega) rM (by omega)) (h.trans (List.getElem?_eq_some_iff.1 MG).2.symm)
            have r0 : (((t + 1 : Nat) : Int) == 0) = false := by simp; omega
            have r1 : (0 : Int) ≤ t ∧ (t : Int) < ((t + 1 : Nat) : Int) := by omega
            have hnl : (M[t].toList == y.toList) = false := by
              cases h : (M[t].toList == y.toList) with
              | false => rfl
              | true => exact absurd (ba_ext (eq_of_beq h)) hne
            generalize M[t] = u at *
            go_wp2_with (at_builtin; refine wpList_app rfl (.tmp 81) (.tmp 83) 53 rfl w2.heap.size 9 (.string ⟨#[]⟩) 16 Try.underlying53 infoStr rfl (by omega) _ _ _ (strs [y]) rfl rfl O3 R3 (strs_one _) LL.out B3.out ?_; intro v4 w4 o4 g4 q4)
            have X4 := Lib.hid (X3.grown g4 O3.lo)
            rw [MT.out] at o4
            have O4 := Lib.hid o4
            clear o4 g4 q4 O3 X3 R3
            go_wp2_with fail
            exact ⟨⟨a.length, q + 1, by omega, by omega, rfl, by go_num, (by rw [show a.length + (q + 1) = t + 1 + 1 by have := HR.out; omega]; exact O4.out), (by rw [show a.length + (q + 1) = t + 1 + 1 by have := HR.out; omega]; exact MD.out), X4.out⟩, by simp [intOf]; omega⟩
        · have q1 : (b.length : Int) ≤ q := by omega
          obtain rfl : q = b.length := by omega
          have ME : Hid (M.take r = M) := List.take_of_length_le (by have := ML.out; omega)
          have XX := Lib.hid (X2.out.trans HX.out)
          go_wp2_with fail
          go_ret
          exact ⟨_, rfl, (by rw [← ME.out]; exact HO.out.reads), .inr (fun j hj => ⟨Nat.le_trans X2.out.size (HO.out.block j hj).1, (HO.out.block j hj).2⟩), XX.out⟩
end Go.Proofs.Ytfjhecilkeikiaa.N
