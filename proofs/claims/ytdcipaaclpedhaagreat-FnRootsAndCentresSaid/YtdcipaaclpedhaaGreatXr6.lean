import Derived.LoopTactic
import Derived.Test.YtdcipaaclpedhaaGreatXr5
/- A part of the proof: lemmas that later parts use. -/
set_option linter.unusedVariables false
set_option linter.unusedSimpArgs false
namespace Go.Proofs.YtdcipaaclpedhaaGreat.N
open Go.RowKit
theorem S_at (l : List UInt8) (i : Nat) (c : UInt8) (h : l[i]? = some c) : i < (S l).size ∧ ∀ h : i < (S l).size, (((S l)[i]'h).toNat : Int) = (c.toNat : Int) := by
  obtain ⟨h1, h2⟩ := List.getElem?_eq_some_iff.1 h
  exact ⟨h1, fun _ => by rw [← h2]; rfl⟩
theorem s_at (s : ByteArray) (i : Nat) (c : UInt8) (h : s.toList[i]? = some c) : i < s.size ∧ ∀ h : i < s.size, ((s[i]'h).toNat : Int) = (c.toNat : Int) := by
  obtain ⟨l, rfl⟩ : ∃ l, s = S l := ⟨_, S_of s⟩
  rw [S_toList] at h
  exact S_at l i c h
theorem s_len (s : ByteArray) : s.toList.length = s.size := by
  have := congrArg ByteArray.size (S_of s); rw [S_size] at this; exact this.symm
theorem drop_cons {α : Type} {l : List α} {i : Nat} {c : α} {r : List α} (h : l.drop i = c :: r) : l[i]? = some c ∧ l.drop (i + 1) = r ∧ i < l.length := by
  have hi : i < l.length := by
    apply Nat.lt_of_not_le; intro hh; rw [List.drop_eq_nil_of_le hh] at h; cases h
  rw [List.drop_eq_getElem_cons hi] at h
  injection h with h1 h2
  exact ⟨by rw [List.getElem?_eq_getElem hi, h1], h2, hi⟩
def endAt (N : Nat) : Option (Tr × List UInt8) → Int
  | none => -1
  | some (_, r) => (N : Int) - r.length
theorem rd_tail {n : Nat} {l : List UInt8} {i : Nat} {T : Tr} {r : List UInt8} (h : rd n (l.drop i) = some (T, r)) (hi : i ≤ l.length) : ∃ j, i < j ∧ j ≤ l.length ∧ r = l.drop j ∧ (l.length : Int) - r.length = j ∧ j = i + T.txt.length := by
  obtain ⟨e, _⟩ := rd_some h
  have hl := congrArg List.length e
  rw [List.length_drop, List.length_append] at hl
  have hp : 0 < T.txt.length := by rw [T.txt_length]; omega
  refine ⟨i + T.txt.length, by omega, by omega, ?_, by omega, rfl⟩
  rw [← List.drop_drop, e, List.drop_left]
set_option maxHeartbeats 1600000 in
set_option maxRecDepth 100000 in
theorem trEnd_calls (s : ByteArray) (hs : s.size < 1000000) (n : Nat) : ∀ (i d : Nat) (w : World), d + n = 61 → i ≤ s.size →
    Calls Tryz.prog 78 #[.string s, .int .i64 i, .int .i64 d] w fun e w' => e = .returned (.int .i64 (endAt s.size (rd n (s.toList.drop i)))) ∧ w = w' := by
  induction n with
  | zero =>
    intro i d w hd hi
    obtain rfl : d = 61 := by omega
    by_cases h : i < s.size
    · have h1 : (i : Int) < s.size := by omega
      clear hd
      go_enter Tryz.func78, Tryz.ntmps78
      go_wp2_with fail
      go_ret
      exact ⟨rfl, rfl⟩
    · have h1 : (s.size : Int) ≤ i := by omega
      clear hd
      go_enter Tryz.func78, Tryz.ntmps78
      go_wp2_with fail
      go_ret
      exact ⟨rfl, rfl⟩
  | succ n ih =>
    intro i d w hd hi
    cases hl : s.toList.drop i with
    | nil =>
      have h1 : (s.size : Int) ≤ i := by
        have := congrArg List.length hl
        rw [List.length_drop, s_len] at this
        simp at this; omega
      clear hd hl ih
      go_enter Tryz.func78, Tryz.ntmps78
      go_wp2_with fail
      go_ret
      exact ⟨rfl, rfl⟩
    | cons c l =>
      obtain ⟨g1, g2, g3⟩ := drop_cons hl
      rw [s_len] at g3
      obtain ⟨x1, x2⟩ := s_at s i c g1
      have h1 : (i : Int) < s.size := by omega
      have h2 : (d : Int) ≤ 60 := by omega
      have h0 : (0 : Int) ≤ i := by omega
      by_cases c1 : c = 46
      · have t1 : ((c.toNat : Int) == 46) = true := by subst c1; rfl
        have E : Hid (endAt s.size (rd (n + 1) (c :: l)) = (i : Int) + 1) := by
          subst c1
          have := congrArg List.length g2
          rw [List.length_drop, s_len] at this
          simp [Hid, rd, endAt]; omega
        clear hd hl g1 g2 ih
        go_enter Tryz.func78, Tryz.ntmps78
        go_wp2_with fail
        go_ret
        exact ⟨by rw [E.out]; rfl, rfl⟩
      · have t1 : ((c.toNat : Int) == 46) = false := byte_ne c1
        by_cases c2 : c = 40
        · have t2 : ((c.toNat : Int) != 40) = false := by subst c2; rfl
          have hR : Hid (rd (n + 1) (c :: l) = match rd n l with
              | none => none
              | some (a, l1) => match rd n l1 with
                | some (b, 41 :: l3) => some (.node a b, l3)
                | _ => none) := by subst c2; rfl
          have c1 := ih (i + 1) (d + 1) w (by omega) (by omega)
          rw [g2] at c1
          have C1 := Lib.hid c1
          have G2 := Lib.hid g2
          have HD := Lib.hid hd
          have d0 : 0 ≤ (d : Int) := by omega
          have IH := Lib.hid ih
          clear hd hl g1 g2 c1 ih
          go_enter Tryz.func78, Tryz.ntmps78
          go_wp2_with fail
          refine (C1.out).mono ?_
          cases ho : rd n l with
          | none =>
            have HO := Lib.hid ho
            clear ho
            rintro e w1 ⟨rfl, rfl⟩
            simp only [endAt]
            go_wp2_with fail
            go_ret
            refine ⟨?_, rfl⟩
            rw [hR.out, HO.out]
            rfl
          | some ab =>
            obtain ⟨A, l1⟩ := ab
            obtain ⟨j, j1, j2, j3, j4, j5⟩ := rd_tail (l := s.toList) (i := i + 1) (by rw [G2.out]; exact ho) (by rw [s_len]; omega)
            rw [s_len] at j2 j4
            have HO := Lib.hid ho
            have J3 := Lib.hid j3
            have E1 : endAt s.size (some (A, l1)) = (j : Int) := j4
            clear ho j3 j4 j5
            rw [E1]
            clear E1
            rintro e w1 ⟨rfl, rfl⟩
            have j0 : (0 : Int) ≤ j := by omega
            have C2 := Lib.hid (IH.out j (d + 1) w (by have := HD.out; omega) j2)
            rw [← J3.out] at C2
            go_wp2_with fail
            refine (C2.out).mono ?_
            cases ho : rd n l1 with
            | none =>
              have HO2 := Lib.hid ho
              clear ho
              rintro e w2 ⟨rfl, rfl⟩
              simp only [endAt]
              go_wp2_with fail
              go_ret
              refine ⟨?_, rfl⟩
              rw [hR.out, HO.out]
              simp only [HO2.out]
              rfl
            | some ab =>
              obtain ⟨B, l2⟩ := ab
              obtain ⟨m, m1, m2, m3, m4, m5⟩ := rd_tail (l := s.toList) (i := j) (by rw [← J3.out]; exact ho) (by rw [s_len]; omega)
              rw [s_len] at m2 m4
              have HO2 := Lib.hid ho
              have E2 : endAt s.size (some (B, l2)) = (m : Int) := m4
              rw [E2]
              clear E2 ho m5
              rintro e w2 ⟨rfl, rfl⟩
              have m0 : (0 : Int) ≤ m := by omega
              cases l2 with
              | nil =>
                have h3 : (s.size : Int) ≤ m := by simp at m4; omega
                clear m3 m4
                go_wp2_with fail
                go_ret
                refine ⟨?_, rfl⟩
                rw [hR.out, HO.out]
                simp only [HO2.out]
                rfl
              | cons q l3 =>
                obtain ⟨q1, q2, q3⟩ := drop_cons m3.symm
                rw [s_len] at q3
                obtain ⟨y1, y2⟩ := s_at s m q q1
                have h3 : (m : Int) < s.size := by omega
                by_cases c3 : q = 41
                · have t3 : ((q.toNat : Int) != 41) = false := by subst c3; rfl
                  have E : Hid (endAt s.size (some (Tr.node A B, l3)) = (m : Int) + 1) := by
                    have := congrArg List.length q2
                    rw [List.length_drop, s_len] at this
                    simp only [Hid, endAt]; omega
                  clear m3 m4 q1 q2
                  go_wp2_with fail
                  go_ret
                  refine ⟨?_, rfl⟩
                  rw [hR.out, HO.out]
                  simp only [HO2.out]
                  subst c3
                  simp only
                  rw [E.out]
                  rfl
                · have t3 : ((q.toNat : Int) != 41) = true := byte_bne c3
                  clear m3 m4 q1 q2
                  go_wp2_with fail
                  go_ret
                  refine ⟨?_, rfl⟩
                  rw [hR.out, HO.out]
                  simp only [HO2.out]
                  have : (match (some (B, q :: l3) : Option (Tr × List UInt8)) with | some (b, 41 :: l3) => some (Tr.node A b, l3) | _ => none) = none := by
                    split
                    · rename_i h; simp at h; exact absurd h.2.1 c3
                    · rfl
                  rw [this]
                  rfl
        · have t2 : ((c.toNat : Int) != 40) = true := byte_bne c2
          have E : Hid (rd (n + 1) (c :: l) = none) := by simp [Hid, rd, c1, c2]
          clear hd hl g1 g2 ih
          go_enter Tryz.func78, Tryz.ntmps78
          go_wp2_with fail
          go_ret
          exact ⟨by rw [E.out]; rfl, rfl⟩
def cnt (l : List UInt8) : Nat := l.countP (· == 40)
theorem cnt_txt : ∀ T : Tr, cnt T.txt = T.carets
  | .leaf => rfl
  | .node l r => by
    have h1 := cnt_txt l; have h2 := cnt_txt r
    simp only [cnt] at h1 h2
    simp [cnt, Tr.txt, Tr.carets, List.countP_cons, List.countP_append, h1, h2]; omega
theorem cnt_snoc (l : List UInt8) (c : UInt8) : cnt (l ++ [c]) = cnt l + if c = 40 then 1 else 0 := by
  simp [cnt, List.countP_append, List.countP_cons]
theorem cnt_le (l : List UInt8) : cnt l ≤ l.length := List.countP_le_length
theorem take_snoc (s : ByteArray) (k : Nat) (c : UInt8) (h : s.toList[k]? = some c) : s.toList.take (k + 1) = s.toList.take k ++ [c] := by
  rw [List.take_add_one, h]; rfl
theorem byte_at (s : ByteArray) (k : Nat) (h : k < s.size) : ∃ c, s.toList[k]? = some c := ⟨_, List.getElem?_eq_getElem (by rw [s_len]; exact h)⟩
set_option maxHeartbeats 1600000 in
theorem trCarets_calls (s : ByteArray) (hs : s.size < 1000000) (w : World) :
    Calls Tryz.prog 54 #[.string s] w fun e w' => e = .returned (.int .i64 (cnt s.toList)) ∧ w = w' := by
  go_enter Tryz.func54, Tryz.ntmps54
  go_wp2
  go_loop [3, 4] (fun n i => ∃ k : Nat, k ≤ s.size ∧ i = .int .i64 k ∧ n = .int .i64 (cnt (s.toList.take k))) (fun _ i => s.size - (intOf i).toNat)
  case atStart => exact ⟨0, Nat.zero_le _, rfl, rfl⟩
  case round =>
    obtain ⟨k, hk, rfl, rfl⟩ := hrel
    have b1 := cnt_le (s.toList.take k)
    have b2 : (s.toList.take k).length ≤ k := List.length_take_le _ _
    have b3 : (0 : Int) ≤ cnt (s.toList.take k) ∧ (cnt (s.toList.take k) : Int) ≤ k := by omega
    clear b1 b2
    by_cases hlt : k < s.size
    · obtain ⟨c, hc⟩ := byte_at s k hlt
      obtain ⟨x1, x2⟩ := s_at s k c hc
      have h1 : (k : Int) < s.size := by omega
      have h0 : (0 : Int) ≤ k := by omega
      have E := Lib.hid (show cnt (s.toList.take (k + 1)) = cnt (s.toList.take k) + if c = 40 then 1 else 0 from by rw [take_snoc s k c hc, cnt_snoc])
      clear hc
      by_cases c1 : c = 40
      · have t1 : ((c.toNat : Int) == 40) = true := by subst c1; rfl
        go_wp2
        go_round
        case rel => exact ⟨k + 1, by omega, by go_num, by rw [E.out, if_pos c1]; go_num⟩
        case measure => simp [intOf]; omega
      · have t1 : ((c.toNat : Int) == 40) = false := byte_ne c1
        go_wp2
        go_round
        case rel => exact ⟨k + 1, by omega, by go_num, by rw [E.out, if_neg c1]; go_num⟩
        case measure => simp [intOf]; omega
    · have h1 : (s.size : Int) ≤ k := by omega
      have E := Lib.hid (show s.toList.take k = s.toList from List.take_of_length_le (by rw [s_len]; omega))
      go_wp2
      go_ret
      exact ⟨by rw [E.out]; rfl, rfl⟩
theorem trIs_yes (T : Tr) (hT : T.carets ≤ 8) (w : World) :
    Calls Tryz.prog 53 #[.string (tx T)] w fun e w' => e = .returned (.bool true) ∧ w = w' := by
  have z : (tx T).size = 3 * T.carets + 1 := T.txt_length
  have hz : ((tx T).size : Int) ≤ 33 := by omega
  have C1 := Lib.hid (trCarets_calls (tx T) (by omega) w)
  have C2 := Lib.hid (trEnd_calls (tx T) (by omega) 61 0 0 w rfl (Nat.zero_le _))
  have E1 : Hid (cnt (tx T).toList = T.carets) := by rw [tx, S_toList]; exact cnt_txt T
  have E2 : Hid (endAt (tx T).size (rd 61 ((tx T).toList.drop 0)) = ((tx T).size : Int)) := by
    rw [tx, S_toList, List.drop_zero, rd_txt' T 61 (by have := T.depth_le; omega)]
    simp [Hid, endAt]
  have hc : (T.carets : Int) ≤ 8 := by omega
  clear z hT
  go_enter Tryz.func53, Tryz.ntmps53
  go_wp2_with fail
  refine C1.out.mono ?_
  rintro e w1 ⟨rfl, rfl⟩
  rw [E1.out]
  go_wp2_with fail
  refine C2.out.mono ?_
  rintro e w1 ⟨rfl, rfl⟩
  rw [E2.out]
  go_wp2_with fail
  go_ret
  exact ⟨by simp, rfl⟩
theorem trIs_no (s : ByteArray) (hT : ¬ ∃ T, s = tx T ∧ T.carets ≤ 8) (w : World) :
    Calls Tryz.prog 53 #[.string s] w fun e w' => e = .returned (.bool false) ∧ w = w' := by
  by_cases z : s.size ≤ 33
  · have hz : (s.size : Int) ≤ 33 := by omega
    have C1 := Lib.hid (trCarets_calls s (by omega) w)
    have C2 := Lib.hid (trEnd_calls s (by omega) 61 0 0 w rfl (Nat.zero_le _))
    by_cases hc : cnt s.toList ≤ 8
    · have hc' : (cnt s.toList : Int) ≤ 8 := by omega
      have E2 : (endAt s.size (rd 61 (s.toList.drop 0)) == (s.size : Int)) = false := by
        rw [beq_eq_false_iff_ne, List.drop_zero]
        cases hr : rd 61 s.toList with
        | none => simp only [endAt]; omega
        | some x =>
          obtain ⟨T, r⟩ := x
          obtain ⟨e1, e2⟩ := rd_some hr
          simp only [endAt]
          intro h
          have hr0 : r = [] := List.eq_nil_of_length_eq_zero (by omega)
          subst hr0
          rw [List.append_nil] at e1
          refine hT ⟨T, by rw [S_of s, e1]; rfl, ?_⟩
          rw [e1, cnt_txt] at hc
          exact hc
      generalize endAt s.size (rd 61 (s.toList.drop 0)) = E at *
      have h0 : (0 : Int) ≤ cnt s.toList := by omega
      clear hc z hT
      go_enter Tryz.func53, Tryz.ntmps53
      go_wp2_with fail
      refine C1.out.mono ?_
      rintro e w1 ⟨rfl, rfl⟩
      go_wp2_with fail
      refine C2.out.mono ?_
      rintro e w1 ⟨rfl, rfl⟩
      go_wp2_with fail
      go_ret
      exact ⟨rfl, rfl⟩
    · have hc' : (8 : Int) < (cnt s.toList : Int) := by omega
      clear hc z hT
      go_enter Tryz.func53, Tryz.ntmps53
      go_wp2_with fail
      refine C1.out.mono ?_
      rintro e w1 ⟨rfl, rfl⟩
      go_wp2_with fail
      go_ret
      exact ⟨rfl, rfl⟩
  · have hz : (33 : Int) < s.size := by omega
    clear z hT
    go_enter Tryz.func53, Tryz.ntmps53
    go_wp2_with fail
    go_ret
    exact ⟨rfl, rfl⟩
theorem trOf_calls (a b : ByteArray) (ha : a.size ≤ 3000000000) (hb : b.size ≤ 3000000000) (w : World) :
    Calls Tryz.prog 77 #[.string a, .string b] w fun e w' => e = .returned (.string (((⟨#[40]⟩ ++ a) ++ b) ++ ⟨#[41]⟩)) ∧ w = w' := by
  go_enter Tryz.func77, Tryz.ntmps77
  go_wp2
  go_ret
  exact ⟨rfl, rfl⟩
theorem tx_size (T : Tr) : (tx T).size = 3 * T.carets + 1 := T.txt_length
theorem trOf_tx (l r : Tr) (hl : l.carets ≤ 900000000) (hr : r.carets ≤ 900000000) (w : World) :
    Calls Tryz.prog 77 #[.string (tx l), .string (tx r)] w fun e w' => e = .returned (.string (tx (.node l r))) ∧ w = w' := by
  refine (trOf_calls (tx l) (tx r) (by rw [tx_size]; omega) (by rw [tx_size]; omega) w).mono ?_
  rintro e w' ⟨rfl, rfl⟩
  exact ⟨by rw [tx_node], rfl⟩
theorem trLeaf_leaf (w : World) : Calls Tryz.prog 75 #[.string (tx .leaf)] w fun e w' => e = .returned (.bool true) ∧ w = w' := by
  have h : ((tx .leaf).toList == [46]) = true := by rw [tx, S_toList]; rfl
  generalize tx .leaf = s at *
  go_enter Tryz.func75, Tryz.ntmps75
  go_wp2
  go_ret
  exact ⟨rfl, rfl⟩
theorem trLeaf_node (l r : Tr) (w : World) : Calls Tryz.prog 75 #[.string (tx (.node l r))] w fun e w' => e = .returned (.bool false) ∧ w = w' := by
  have h : ((tx (.node l r)).toList == [46]) = false := by rw [tx, S_toList]; simp [Tr.txt]
  generalize tx (.node l r) = s at *
  go_enter Tryz.func75, Tryz.ntmps75
  go_wp2
  go_ret
  exact ⟨rfl, rfl⟩
theorem trSides_calls (l r : Tr) (hd : (Tr.node l r).depth ≤ 60) (hc : (Tr.node l r).carets ≤ 300000) (w : World) :
    Calls Tryz.prog 76 #[.string (tx (.node l r))] w fun e w' => e = .returned (.tuple #[.string (tx l), .string (tx r)]) ∧ ∃ n, w' = w.drewN n := by
  have zl := tx_size l
  have zr := tx_size r
  have zs := tx_size (.node l r)
  have hcc : (Tr.node l r).carets = 1 + l.carets + r.carets := rfl
  have C := Lib.hid (trEnd_calls (tx (.node l r)) (by omega) 61 1 0 w rfl (by omega))
  have X1 : Hid ((tx (.node l r)).extract 1 (1 + (tx l).size) = tx l) := by
    show (S (40 :: (l.txt ++ (r.txt ++ [41])))).extract 1 (1 + l.txt.length) = S l.txt
    rw [S_extract, Nat.add_comm 1]
    simp
  have X2 : Hid ((tx (.node l r)).extract (1 + (tx l).size) ((tx (.node l r)).size - 1) = tx r) := by
    show (S (40 :: (l.txt ++ (r.txt ++ [41])))).extract (1 + l.txt.length) ((40 :: (l.txt ++ (r.txt ++ [41]))).length - 1) = S r.txt
    rw [S_extract]
    congr 1
    have e : (40 :: (l.txt ++ (r.txt ++ [41]))).length - 1 = (40 :: (l.txt ++ r.txt)).length := by simp; omega
    rw [e, show (40 :: (l.txt ++ (r.txt ++ [41])) : List UInt8) = (40 :: (l.txt ++ r.txt)) ++ [41] from by simp, List.take_left, Nat.add_comm 1]
    simp
  have E1 : Hid (endAt (tx (.node l r)).size (rd 61 ((tx (.node l r)).toList.drop 1)) = ((1 + (tx l).size : Nat) : Int)) := by
    rw [tx, S_toList, show (Tr.node l r).txt.drop 1 = l.txt ++ (r.txt ++ [41]) from rfl, rd_txt l 61 _ (by simp only [Tr.depth] at hd; omega)]
    show ((S _).size : Int) - _ = _
    rw [S_size]
    have := l.txt_length; have := r.txt_length; have := (Tr.node l r).txt_length
    simp only [Hid, List.length_append, List.length_singleton]
    omega
  generalize hk : 1 + (tx l).size = k at *
  generalize tx (.node l r) = s at *
  have b1 : (1 : Int) ≤ k := by omega
  have b2 : (k : Int) ≤ (s.size : Int) - 1 := by omega
  have b4 : (1 : Int) ≤ s.size := by omega
  have b3 : (s.size : Int) ≤ 1000000 := by omega
  have E2 : ((s.size : Int) - 1).toNat = s.size - 1 := by omega
  clear zl zr zs hcc hk hd hc
  go_enter Tryz.func76, Tryz.ntmps76
  go_wp2_with fail
  refine C.out.mono ?_
  rw [E1.out]
  rintro e w1 ⟨rfl, rfl⟩
  go_wp2_with fail
  go_quiet (fail)
  go_wp2_with fail
  go_ret2
  exact ⟨by rw [← X1.out, ← X2.out]; rfl, nq, rfl⟩
end Go.Proofs.YtdcipaaclpedhaaGreat.N
