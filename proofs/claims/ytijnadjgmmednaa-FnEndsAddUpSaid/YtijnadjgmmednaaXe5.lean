import Derived.LoopTactic
import Derived.Test.YtijnadjgmmednaaXe4
/- A part of the proof: lemmas that later parts use. -/
set_option linter.unusedVariables false
set_option linter.unusedSimpArgs false
namespace Go.Proofs.Ytijnadjgmmednaa.N
open Go.RowKit
theorem S_at (l : List UInt8) (i : Nat) (c : UInt8) (h : l[i]? = some c) : i < (S l).size ∧ ∀ h : i < (S l).size, (((S l)[i]'h).toNat : Int) = (c.toNat : Int) := by
  obtain ⟨h1, h2⟩ := List.getElem?_eq_some_iff.1 h
  exact ⟨h1, fun _ => by rw [← h2]; rfl⟩
theorem s_at (s : ByteArray) (i : Nat) (c : UInt8) (h : s.toList[i]? = some c) : i < s.size ∧ ∀ h : i < s.size, ((s[i]'h).toNat : Int) = (c.toNat : Int) := by
  obtain ⟨l, rfl⟩ : ∃ l, s = S l := ⟨_, S_of s⟩
  rw [S_toList] at h
  exact S_at l i c h
theorem s_len (s : ByteArray) : s.toList.length = s.size := by
  have := congrArg ByteArray.size (S_of s); rw [S_size] at this; exact this.symm
theorem drop_cons {α : Type} {l : List α} {i : Nat} {c : α} {r : List α} (h : l.drop i = c :: r) : l[i]? = some c ∧ l.drop (i + 1) = r ∧ i < l.length := by
  have hi : i < l.length := by
    apply Nat.lt_of_not_le; intro hh; rw [List.drop_eq_nil_of_le hh] at h; cases h
  rw [List.drop_eq_getElem_cons hi] at h
  injection h with h1 h2
  exact ⟨by rw [List.getElem?_eq_getElem hi, h1], h2, hi⟩
def endAt (N : Nat) : Option (Tr × List UInt8) → Int
  | none => -1
  | some (_, r) => (N : Int) - r.length
theorem rd_tail {n : Nat} {l : List UInt8} {i : Nat} {T : Tr} {r : List UInt8} (h : rd n (l.drop i) = some (T, r)) (hi : i ≤ l.length) : ∃ j, i < j ∧ j ≤ l.length ∧ r = l.drop j ∧ (l.length : Int) - r.length = j ∧ j = i + T.txt.length := by
  obtain ⟨e, _⟩ := rd_some h
  have hl := congrArg List.length e
  rw [List.length_drop, List.length_append] at hl
  have hp : 0 < T.txt.length := by rw [T.txt_length]; omega
  refine ⟨i + T.txt.length, by omega, by omega, ?_, by omega, rfl⟩
  rw [← List.drop_drop, e, List.drop_left]
set_option maxHeartbeats 1600000 in
set_option maxRecDepth 100000 in
theorem trEnd_calls (s : ByteArray) (hs : s.size < 1000000) (n : Nat) : ∀ (i d : Nat) (w : World), d + n = 61 → i ≤ s.size →
    Calls Try.prog 161 #[.string s, .int .i64 i, .int .i64 d] w fun e w' => e = .returned (.int .i64 (endAt s.size (rd n (s.toList.drop i)))) ∧ w = w' := by
  induction n with
  | zero =>
    intro i d w hd hi
    obtain rfl : d = 61 := by omega
    by_cases h : i < s.size
    · have h1 : (i : Int) < s.size := by omega
      clear hd
      go_enter Try.func161, Try.ntmps161
      go_wp2_with fail
      go_ret
      exact ⟨rfl, rfl⟩
    · have h1 : (s.size : Int) ≤ i := by omega
      clear hd
      go_enter Try.func161, Try.ntmps161
      go_wp2_with fail
      go_ret
      exact ⟨rfl, rfl⟩
  | succ n ih =>
    intro i d w hd hi
    cases hl : s.toList.drop i with
    | nil =>
      have h1 : (s.size : Int) ≤ i := by
        have := congrArg List.length hl
        rw [List.length_drop, s_len] at this
        simp at this; omega
      clear hd hl ih
      go_enter Try.func161, Try.ntmps161
      go_wp2_with fail
      go_ret
      exact ⟨rfl, rfl⟩
    | cons c l =>
      obtain ⟨g1, g2, g3⟩ := drop_cons hl
      rw [s_len] at g3
      obtain ⟨x1, x2⟩ := s_at s i c g1
      have h1 : (i : Int) < s.size := by omega
      have h2 : (d : Int) ≤ 60 := by omega
      have h0 : (0 : Int) ≤ i := by omega
      by_cases c1 : c = 46
      · have t1 : ((c.toNat : Int) == 46) = true := by subst c1; rfl
        have E : Hid (endAt s.size (rd (n + 1) (c :: l)) = (i : Int) + 1) := by
          subst c1
          have := congrArg List.length g2
          rw [List.length_drop, s_len] at this
          simp [Hid, rd, endAt]; omega
        clear hd hl g1 g2 ih
        go_enter Try.func161, Try.ntmps161
        go_wp2_with fail
        go_ret
        exact ⟨by rw [E.out]; rfl, rfl⟩
      · have t1 : ((c.toNat : Int) == 46) = false := byte_ne c1
        by_cases c2 : c = 40
        · have t2 : ((c.toNat : Int) != 40) = false := by subst c2; rfl
          have hR : Hid (rd (n + 1) (c :: l) = match rd n l with
              | none => none
              | some (a, l1) => match rd n l1 with
                | some (b, 41 :: l3) => some (.node a b, l3)
                | _ => none) := by subst c2; rfl
          have c1 := ih (i + 1) (d + 1) w (by omega) (by omega)
          rw [g2] at c1
          have C1 := Lib.hid c1
          have G2 := Lib.hid g2
          have HD := Lib.hid hd
          have d0 : 0 ≤ (d : Int) := by omega
          have IH := Lib.hid ih
          clear hd hl g1 g2 c1 ih
          go_enter Try.func161, Try.ntmps161
          go_wp2_with fail
          refine (C1.out).mono ?_
          cases ho : rd n l with
          | none =>
            have HO := Lib.hid ho
            clear ho
            rintro e w1 ⟨rfl, rfl⟩
            simp only [endAt]
            go_wp2_with fail
            go_ret
            refine ⟨?_, rfl⟩
            rw [hR.out, HO.out]
            rfl
          | some ab =>
            obtain ⟨A, l1⟩ := ab
            obtain ⟨j, j1, j2, j3, j4, j5⟩ := rd_tail (l := s.toList) (i := i + 1) (by rw [G2.out]; exact ho) (by rw [s_len]; omega)
            rw [s_len] at j2 j4
            have HO := Lib.hid ho
            have J3 := Lib.hid j3
            have E1 : endAt s.size (some (A, l1)) = (j : Int) := j4
            clear ho j3 j4 j5
            rw [E1]
            clear E1
            rintro e w1 ⟨rfl, rfl⟩
            have j0 : (0 : Int) ≤ j := by omega
            have C2 := Lib.hid (IH.out j (d + 1) w (by have := HD.out; omega) j2)
            rw [← J3.out] at C2
            go_wp2_with fail
            refine (C2.out).mono ?_
            cases ho : rd n l1 with
            | none =>
              have HO2 := Lib.hid ho
              clear ho
              rintro e w2 ⟨rfl, rfl⟩
              simp only [endAt]
              go_wp2_with fail
              go_ret
              refine ⟨?_, rfl⟩
              rw [hR.out, HO.out]
              simp only [HO2.out]
              rfl
            | some ab =>
              obtain ⟨B, l2⟩ := ab
              obtain ⟨m, m1, m2, m3, m4, m5⟩ := rd_tail (l := s.toList) (i := j) (by rw [← J3.out]; exact ho) (by rw [s_len]; omega)
              rw [s_len] at m2 m4
              have HO2 := Lib.hid ho
              have E2 : endAt s.size (some (B, l2)) = (m : Int) := m4
              rw [E2]
              clear E2 ho m5
              rintro e w2 ⟨rfl, rfl⟩
              have m0 : (0 : Int) ≤ m := by omega
              cases l2 with
              | nil =>
                have h3 : (s.size : Int) ≤ m := by simp at m4; omega
                clear m3 m4
                go_wp2_with fail
                go_ret
                refine ⟨?_, rfl⟩
                rw [hR.out, HO.out]
                simp only [HO2.out]
                rfl
              | cons q l3 =>
                obtain ⟨q1, q2, q3⟩ := drop_cons m3.symm
                rw [s_len] at q3
                obtain ⟨y1, y2⟩ := s_at s m q q1
                have h3 : (m : Int) < s.size := by omega
                by_cases c3 : q = 41
                · have t3 : ((q.toNat : Int) != 41) = false := by subst c3; rfl
                  have E : Hid (endAt s.size (some (Tr.node A B, l3)) = (m : Int) + 1) := by
                    have := congrArg List.length q2
                    rw [List.length_drop, s_len] at this
                    simp only [Hid, endAt]; omega
                  clear m3 m4 q1 q2
                  go_wp2_with fail
                  go_ret
                  refine ⟨?_, rfl⟩
                  rw [hR.out, HO.out]
                  simp only [HO2.out]
                  subst c3
                  simp only
                  rw [E.out]
                  rfl
                · have t3 : ((q.toNat : Int) != 41) = true := byte_bne c3
                  clear m3 m4 q1 q2
                  go_wp2_with fail
                  go_ret
                  refine ⟨?_, rfl⟩
                  rw [hR.out, HO.out]
                  simp only [HO2.out]
                  have : (match (some (B, q :: l3) : Option (Tr × List UInt8)) with | some (b, 41 :: l3) => some (Tr.node A b, l3) | _ => none) = none := by
                    split
                    · rename_i h; simp at h; exact absurd h.2.1 c3
                    · rfl
                  rw [this]
                  rfl
        · have t2 : ((c.toNat : Int) != 40) = true := byte_bne c2
          have E : Hid (rd (n + 1) (c :: l) = none) := by simp [Hid, rd, c1, c2]
          clear hd hl g1 g2 ih
          go_enter Try.func161, Try.ntmps161
          go_wp2_with fail
          go_ret
          exact ⟨by rw [E.out]; rfl, rfl⟩
def cnt (l : List UInt8) : Nat := l.countP (· == 40)
theorem cnt_txt : ∀ T : Tr, cnt T.txt = T.carets
  | .leaf => rfl
  | .node l r => by
    have h1 := cnt_txt l; have h2 := cnt_txt r
    simp only [cnt] at h1 h2
    simp [cnt, Tr.txt, Tr.carets, List.countP_cons, List.countP_append, h1, h2]; omega
theorem cnt_snoc (l : List UInt8) (c : UInt8) : cnt (l ++ [c]) = cnt l + if c = 40 then 1 else 0 := by
  simp [cnt, List.countP_append, List.countP_cons]
theorem cnt_le (l : List UInt8) : cnt l ≤ l.length := List.countP_le_length
theorem take_snoc (s : ByteArray) (k : Nat) (c : UInt8) (h : s.toList[k]? = some c) : s.toList.take (k + 1) = s.toList.take k ++ [c] := by
  rw [List.take_add_one, h]; rfl
theorem byte_at (s : ByteArray) (k : Nat) (h : k < s.size) : ∃ c, s.toList[k]? = some c := ⟨_, List.getElem?_eq_getElem (by rw [s_len]; exact h)⟩
set_option maxHeartbeats 1600000 in
theorem trCarets_calls (s : ByteArray) (hs : s.size < 1000000) (w : World) :
    Calls Try.prog 86 #[.string s] w fun e w' => e = .returned (.int .i64 (cnt s.toList)) ∧ w = w' := by
  go_enter Try.func86, Try.ntmps86
  go_wp2
  go_loop [3, 4] (fun n i => ∃ k : Nat, k ≤ s.size ∧ i = .int .i64 k ∧ n = .int .i64 (cnt (s.toList.take k))) (fun _ i => s.size - (intOf i).toNat)
  case atStart => exact ⟨0, Nat.zero_le _, rfl, rfl⟩
  case round =>
    obtain ⟨k, hk, rfl, rfl⟩ := hrel
    have b1 := cnt_le (s.toList.take k)
    have b2 : (s.toList.take k).length ≤ k := List.length_take_le _ _
    have b3 : (0 : Int) ≤ cnt (s.toList.take k) ∧ (cnt (s.toList.take k) : Int) ≤ k := by omega
    clear b1 b2
    by_cases hlt : k < s.size
    · obtain ⟨c, hc⟩ := byte_at s k hlt
      obtain ⟨x1, x2⟩ := s_at s k c hc
      have h1 : (k : Int) < s.size := by omega
      have h0 : (0 : Int) ≤ k := by omega
      have E := Lib.hid (show cnt (s.toList.take (k + 1)) = cnt (s.toList.take k) + if c = 40 then 1 else 0 from by rw [take_snoc s k c hc, cnt_snoc])
      clear hc
      by_cases c1 : c = 40
      · have t1 : ((c.toNat : Int) == 40) = true := by subst c1; rfl
        go_wp2
        go_round
        case rel => exact ⟨k + 1, by omega, by go_num, by rw [E.out, if_pos c1]; go_num⟩
        case measure => simp [intOf]; omega
      · have t1 : ((c.toNat : Int) == 40) = false := byte_ne c1
        go_wp2
        go_round
        case rel => exact ⟨k + 1, by omega, by go_num, by rw [E.out, if_neg c1]; go_num⟩
        case measure => simp [intOf]; omega
    · have h1 : (s.size : Int) ≤ k := by omega
      have E := Lib.hid (show s.toList.take k = s.toList from List.take_of_length_le (by rw [s_len]; omega))
      go_wp2
      go_ret
      exact ⟨by rw [E.out]; rfl, rfl⟩
theorem trIs_yes (T : Tr) (hT : T.carets ≤ 8) (w : World) :
    Calls Try.prog 124 #[.string (tx T)] w fun e w' => e = .returned (.bool true) ∧ w = w' := by
  have z : (tx T).size = 3 * T.carets + 1 := T.txt_length
  have hz : ((tx T).size : Int) ≤ 33 := by omega
  have C1 := Lib.hid (trCarets_calls (tx T) (by omega) w)
  have C2 := Lib.hid (trEnd_calls (tx T) (by omega) 61 0 0 w rfl (Nat.zero_le _))
  have E1 : Hid (cnt (tx T).toList = T.carets) := by rw [tx, S_toList]; exact cnt_txt T
  have E2 : Hid (endAt (tx T).size (rd 61 ((tx T).toList.drop 0)) = ((tx T).size : Int)) := by
    rw [tx, S_toList, List.drop_zero, rd_txt' T 61 (by have := T.depth_le; omega)]
    simp [Hid, endAt]
  have hc : (T.carets : Int) ≤ 8 := by omega
  clear z hT
  go_enter Try.func124, Try.ntmps124
  go_wp2_with fail
  refine C1.out.mono ?_
  rintro e w1 ⟨rfl, rfl⟩
  rw [E1.out]
  go_wp2_with fail
  refine C2.out.mono ?_
  rintro e w1 ⟨rfl, rfl⟩
  rw [E2.out]
  go_wp2_with fail
  go_ret
  exact ⟨by simp, rfl⟩
theorem trIs_no (s : ByteArray) (hT : ¬ ∃ T, s = tx T ∧ T.carets ≤ 8) (w : World) :
    Calls Try.prog 124 #[.string s] w fun e w' => e = .returned (.bool false) ∧ w = w' := by
  by_cases z : s.size ≤ 33
  · have hz : (s.size : Int) ≤ 33 := by omega
    have C1 := Lib.hid (trCarets_calls s (by omega) w)
    have C2 := Lib.hid (trEnd_calls s (by omega) 61 0 0 w rfl (Nat.zero_le _))
    by_cases hc : cnt s.toList ≤ 8
    · have hc' : (cnt s.toList : Int) ≤ 8 := by omega
      have E2 : (endAt s.size (rd 61 (s.toList.drop 0)) == (s.size : Int)) = false := by
        rw [beq_eq_false_iff_ne, List.drop_zero]
        cases hr : rd 61 s.toList with
        | none => simp only [endAt]; omega
        | some x =>
          obtain ⟨T, r⟩ := x
          obtain ⟨e1, e2⟩ := rd_some hr
          simp only [endAt]
          intro h
          have hr0 : r = [] := List.eq_nil_of_length_eq_zero (by omega)
          subst hr0
          rw [List.append_nil] at e1
          refine hT ⟨T, by rw [S_of s, e1]; rfl, ?_⟩
          rw [e1, cnt_txt] at hc
          exact hc
      generalize endAt s.size (rd 61 (s.toList.drop 0)) = E at *
      have h0 : (0 : Int) ≤ cnt s.toList := by omega
      clear hc z hT
      go_enter Try.func124, Try.ntmps124
      go_wp2_with fail
      refine C1.out.mono ?_
      rintro e w1 ⟨rfl, rfl⟩
      go_wp2_with fail
      refine C2.out.mono ?_
      rintro e w1 ⟨rfl, rfl⟩
      go_wp2_with fail
      go_ret
      exact ⟨rfl, rfl⟩
    · have hc' : (8 : Int) < (cnt s.toList : Int) := by omega
      clear hc z hT
      go_enter Try.func124, Try.ntmps124
      go_wp2_with fail
      refine C1.out.mono ?_
      rintro e w1 ⟨rfl, rfl⟩
      go_wp2_with fail
      go_ret
      exact ⟨rfl, rfl⟩
  · have hz : (33 : Int) < s.size := by omega
    clear z hT
    go_enter Try.func124, Try.ntmps124
    go_wp2_with fail
    go_ret
    exact ⟨rfl, rfl⟩
theorem trOf_calls (a b : ByteArray) (ha : a.size ≤ 3000000000) (hb : b.size ≤ 3000000000) (w : World) :
    Calls Try.prog 138 #[.string a, .string b] w fun e w' => e = .returned (.string (((⟨#[40]⟩ ++ a) ++ b) ++ ⟨#[41]⟩)) ∧ w = w' := by
  go_enter Try.func138, Try.ntmps138
  go_wp2
  go_ret
  exact ⟨rfl, rfl⟩
theorem tx_size (T : Tr) : (tx T).size = 3 * T.carets + 1 := T.txt_length
theorem trLeaf_leaf (w : World) : Calls Try.prog 162 #[.string (tx .leaf)] w fun e w' => e = .returned (.bool true) ∧ w = w' := by
  have h : ((tx .leaf).toList == [46]) = true := by rw [tx, S_toList]; rfl
  generalize tx .leaf = s at *
  go_enter Try.func162, Try.ntmps162
  go_wp2
  go_ret
  exact ⟨rfl, rfl⟩
theorem trLeaf_node (l r : Tr) (w : World) : Calls Try.prog 162 #[.string (tx (.node l r))] w fun e w' => e = .returned (.bool false) ∧ w = w' := by
  have h : ((tx (.node l r)).toList == [46]) = false := by rw [tx, S_toList]; simp [Tr.txt]
  generalize tx (.node l r) = s at *
  go_enter Try.func162, Try.ntmps162
  go_wp2
  go_ret
  exact ⟨rfl, rfl⟩
theorem trSides_calls (l r : Tr) (hd : (Tr.node l r).depth ≤ 60) (hc : (Tr.node l r).carets ≤ 300000) (w : World) :
    Calls Try.prog 163 #[.string (tx (.node l r))] w fun e w' => e = .returned (.tuple #[.string (tx l), .string (tx r)]) ∧ ∃ n, w' = w.drewN n := by
  have zl := tx_size l
  have zr := tx_size r
  have zs := tx_size (.node l r)
  have hcc : (Tr.node l r).carets = 1 + l.carets + r.carets := rfl
  have C := Lib.hid (trEnd_calls (tx (.node l r)) (by omega) 61 1 0 w rfl (by omega))
  have X1 : Hid ((tx (.node l r)).extract 1 (1 + (tx l).size) = tx l) := by
    show (S (40 :: (l.txt ++ (r.txt ++ [41])))).extract 1 (1 + l.txt.length) = S l.txt
    rw [S_extract, Nat.add_comm 1]
    simp
  have X2 : Hid ((tx (.node l r)).extract (1 + (tx l).size) ((tx (.node l r)).size - 1) = tx r) := by
    show (S (40 :: (l.txt ++ (r.txt ++ [41])))).extract (1 + l.txt.length) ((40 :: (l.txt ++ (r.txt ++ [41]))).length - 1) = S r.txt
    rw [S_extract]
    congr 1
    have e : (40 :: (l.txt ++ (r.txt ++ [41]))).length - 1 = (40 :: (l.txt ++ r.txt)).length := by simp; omega
    rw [e, show (40 :: (l.txt ++ (r.txt ++ [41])) : List UInt8) = (40 :: (l.txt ++ r.txt)) ++ [41] from by simp, List.take_left, Nat.add_comm 1]
    simp
  have E1 : Hid (endAt (tx (.node l r)).size (rd 61 ((tx (.node l r)).toList.drop 1)) = ((1 + (tx l).size : Nat) : Int)) := by
    rw [tx, S_toList, show (Tr.node l r).txt.drop 1 = l.txt ++ (r.txt ++ [41]) from rfl, rd_txt l 61 _ (by simp only [Tr.depth] at hd; omega)]
    show ((S _).size : Int) - _ = _
    rw [S_size]
    have := l.txt_length; have := r.txt_length; have := (Tr.node l r).txt_length
    simp only [Hid, List.length_append, List.length_singleton]
    omega
  generalize hk : 1 + (tx l).size = k at *
  generalize tx (.node l r) = s at *
  have b1 : (1 : Int) ≤ k := by omega
  have b2 : (k : Int) ≤ (s.size : Int) - 1 := by omega
  have b4 : (1 : Int) ≤ s.size := by omega
  have b3 : (s.size : Int) ≤ 1000000 := by omega
  have E2 : ((s.size : Int) - 1).toNat = s.size - 1 := by omega
  clear zl zr zs hcc hk hd hc
  go_enter Try.func163, Try.ntmps163
  go_wp2_with fail
  refine C.out.mono ?_
  rw [E1.out]
  rintro e w1 ⟨rfl, rfl⟩
  go_wp2_with fail
  go_quiet (fail)
  go_wp2_with fail
  go_ret2
  exact ⟨by rw [← X1.out, ← X2.out]; rfl, nq, rfl⟩
end Go.Proofs.Ytijnadjgmmednaa.N
namespace Go.Proofs.Ytijnadjgmmednaa.N
def dots (l : List UInt8) : Nat := l.countP (fun c => c == 46)
theorem dots_txt : ∀ T : Tr, dots T.txt = T.carets + 1
  | .leaf => rfl
  | .node l r => by
    have h1 := dots_txt l; have h2 := dots_txt r
    simp only [dots] at h1 h2
    simp [dots, Tr.txt, Tr.carets, List.countP_cons, List.countP_append, h1, h2]; omega
end Go.Proofs.Ytijnadjgmmednaa.N
namespace Go.Proofs.Ytijnadjgmmednaa.N
def Tr.grown (h : Nat → Tr) : Tr → Nat → Tr
  | .leaf, k => h k
  | .node l r, k => .node (l.grown h k) (r.grown h (k + (l.carets + 1)))
def graft (T : Tr) (k : Nat) (O : Tr) : Tr := T.grown (fun i => if i = k then O else .leaf) 0
def comb : Nat → Tr
  | 0 => .leaf
  | n + 1 => .node .leaf (comb n)
theorem comb_carets : ∀ n, (comb n).carets = n
  | 0 => rfl
  | n + 1 => by simp only [comb, Tr.carets, comb_carets n]; omega
def gen (i : Nat) : Tr × Tr := (graft (comb i) i (.node (.node .leaf .leaf) .leaf), comb (i + 2))
theorem grown_same (h : Nat → Tr) : ∀ (T : Tr) (k : Nat), (∀ i, k ≤ i → i < k + (T.carets + 1) → h i = .leaf) → T.grown h k = T
  | .leaf, k, hh => hh k (Nat.le_refl _) (by simp [Tr.carets])
  | .node l r, k, hh => by
    simp only [Tr.grown]
    rw [grown_same h l k (fun i h1 h2 => hh i h1 (by simp only [Tr.carets]; omega)), grown_same h r _ (fun i h1 h2 => hh i (by omega) (by simp only [Tr.carets]; omega))]
theorem graft_txt (O : Tr) (n : Nat) : ∀ (T : Tr) (k : Nat), k ≤ n → n < k + (T.carets + 1) → ∃ a b, T.txt = a ++ 46 :: b ∧ (T.grown (fun i => if i = n then O else .leaf) k).txt = a ++ (O.txt ++ b) ∧ k + dots a = n
  | .leaf, k, h1, h2 => by
    have : k = n := by simp only [Tr.carets] at h2; omega
    subst this
    exact ⟨[], [], rfl, by simp [Tr.grown], rfl⟩
  | .node l r, k, h1, h2 => by
    by_cases hl : n < k + (l.carets + 1)
    · obtain ⟨a, b, e1, e2, e3⟩ := graft_txt O n l k h1 hl
      have e4 : r.grown (fun i => if i = n then O else .leaf) (k + (l.carets + 1)) = r := grown_same _ r _ (fun i g1 g2 => if_neg (by omega))
      refine ⟨40 :: a, b ++ (r.txt ++ [41]), ?_, ?_, ?_⟩
      · show 40 :: (l.txt ++ (r.txt ++ [41])) = _
        rw [e1]; simp
      · simp only [Tr.grown, e4]
        show 40 :: ((l.grown _ k).txt ++ (r.txt ++ [41])) = _
        rw [e2]; simp
      · simp only [dots, List.countP_cons] at e3 ⊢
        simp; omega
    · obtain ⟨a, b, e1, e2, e3⟩ := graft_txt O n r (k + (l.carets + 1)) (by omega) (by simp only [Tr.carets] at h2; omega)
      have e4 : l.grown (fun i => if i = n then O else .leaf) k = l := grown_same _ l _ (fun i g1 g2 => if_neg (by omega))
      refine ⟨40 :: (l.txt ++ a), b ++ [41], ?_, ?_, ?_⟩
      · show 40 :: (l.txt ++ (r.txt ++ [41])) = _
        rw [e1]; simp
      · simp only [Tr.grown, e4]
        show 40 :: (l.txt ++ ((r.grown _ _).txt ++ [41])) = _
        rw [e2]; simp
      · have hd := dots_txt l
        simp only [dots] at e3 hd
        simp only [dots, List.countP_cons, List.countP_append, hd]
        simp; omega
theorem grown_one (O : Tr) (n : Nat) : ∀ (T : Tr) (k : Nat), k ≤ n → n < k + (T.carets + 1) → (T.grown (fun i => if i = n then O else .leaf) k).carets = T.carets + O.carets
  | .leaf, k, h1, h2 => by
    have : k = n := by simp only [Tr.carets] at h2; omega
    subst this
    simp [Tr.grown, Tr.carets]
  | .node l r, k, h1, h2 => by
    simp only [Tr.carets] at h2
    by_cases hl : n < k + (l.carets + 1)
    · have e4 : r.grown (fun i => if i = n then O else .leaf) (k + (l.carets + 1)) = r := grown_same _ r _ (fun i g1 g2 => if_neg (by omega))
      have := grown_one O n l k h1 hl
      simp only [Tr.grown, e4, Tr.carets, this]; omega
    · have e4 : l.grown (fun i => if i = n then O else .leaf) k = l := grown_same _ l _ (fun i g1 g2 => if_neg (by omega))
      have := grown_one O n r (k + (l.carets + 1)) (by omega) (by omega)
      simp only [Tr.grown, e4, Tr.carets, this]; omega
theorem gen_carets (i : Nat) : (gen i).1.carets = i + 2 ∧ (gen i).2.carets = i + 2 := by
  refine ⟨?_, comb_carets _⟩
  show ((comb i).grown _ 0).carets = _
  rw [grown_one _ i (comb i) 0 (Nat.zero_le _) (by rw [comb_carets]; omega), comb_carets]; rfl
end Go.Proofs.Ytijnadjgmmednaa.N
namespace Go.Proofs.Ytijnadjgmmednaa.N
theorem both_nil {A B : Tr} : bothT A B = [] ↔ ∀ k, k ∈ expo A 0 → k ∈ expo B 0 → False := by
  unfold bothT
  rw [List.filter_eq_nil_iff]
  constructor
  · intro h k h1 h2; exact h k h1 (by simpa using h2)
  · intro h k h1 h2; exact h k h1 (by simpa using h2)
def join : Tr → Tr → Tr
  | .leaf, b => b
  | .node l r, .leaf => .node l r
  | .node l r, .node a b => .node (join l a) (join r b)
def Part : Tr → Tr → Prop
  | .leaf, _ => True
  | .node _ _, .leaf => False
  | .node l r, .node a b => Part l a ∧ Part r b
theorem part_refl : ∀ T : Tr, Part T T
  | .leaf => trivial
  | .node l r => ⟨part_refl l, part_refl r⟩
theorem part_join_l : ∀ a b : Tr, Part a (join a b)
  | .leaf, b => trivial
  | .node l r, .leaf => part_refl (.node l r)
  | .node l r, .node a b => ⟨part_join_l l a, part_join_l r b⟩
theorem part_join_r : ∀ a b : Tr, Part b (join a b)
  | .leaf, b => part_refl b
  | .node l r, .leaf => trivial
  | .node l r, .node a b => ⟨part_join_r l a, part_join_r r b⟩
theorem join_carets : ∀ a b : Tr, (join a b).carets ≤ a.carets + b.carets
  | .leaf, b => by simp only [join, Tr.carets]; omega
  | .node l r, .leaf => by simp only [join, Tr.carets]; omega
  | .node l r, .node a b => by have := join_carets l a; have := join_carets r b; simp only [join, Tr.carets]; omega
def partsT : Tr → Tr → List Tr
  | .leaf, w => [w]
  | .node _ _, .leaf => []
  | .node l r, .node a b => partsT l a ++ partsT r b
theorem parts_length : ∀ t w : Tr, Part t w → (partsT t w).length = t.carets + 1
  | .leaf, w, _ => rfl
  | .node _ _, .leaf, h => h.elim
  | .node l r, .node a b, h => by simp only [partsT, List.length_append, parts_length l a h.1, parts_length r b h.2, Tr.carets]; omega
def sumc (L : List Tr) : Nat := (L.map Tr.carets).sum
theorem sumc_append (a b : List Tr) : sumc (a ++ b) = sumc a + sumc b := by simp [sumc]
theorem sumc_cons (a : Tr) (b : List Tr) : sumc (a :: b) = a.carets + sumc b := by simp [sumc]
theorem parts_sum : ∀ t w : Tr, Part t w → t.carets + sumc (partsT t w) = w.carets
  | .leaf, w, _ => by simp [partsT, sumc, Tr.carets]
  | .node _ _, .leaf, h => h.elim
  | .node l r, .node a b, h => by have := parts_sum l a h.1; have := parts_sum r b h.2; simp only [partsT, sumc_append, Tr.carets]; omega
def fill (T : Tr) (L : List Tr) : Tr := T.grown (fun i => L.getD i .leaf) 0
theorem grown_sum (L : List Tr) : ∀ (T : Tr) (k : Nat), k + T.carets < L.length → (T.grown (fun i => L.getD i .leaf) k).carets = T.carets + sumc ((L.drop k).take (T.carets + 1))
  | .leaf, k, h => by
    simp only [Tr.carets] at h
    rw [List.drop_eq_getElem_cons (by omega)]
    simp only [Tr.grown, Tr.carets, List.take_succ_cons, List.take_zero, sumc_cons]
    rw [List.getD_eq_getElem?_getD, List.getElem?_eq_getElem (by omega)]
    simp [sumc]
  | .node l r, k, h => by
    simp only [Tr.carets] at h
    have h1 := grown_sum L l k (by omega)
    have h2 := grown_sum L r (k + (l.carets + 1)) (by omega)
    have e : (Tr.node l r).carets + 1 = (l.carets + 1) + (r.carets + 1) := by simp only [Tr.carets]; omega
    rw [e, List.take_add, sumc_append, List.drop_drop]
    simp only [Tr.grown, Tr.carets]
    omega
theorem fill_carets (T : Tr) (L : List Tr) (h : L.length = T.carets + 1) : (fill T L).carets = T.carets + sumc L := by
  unfold fill
  rw [grown_sum L T 0 (by omega), List.drop_zero, List.take_of_length_le (by omega)]
def addrs : Tr → List UInt8 → List (List UInt8)
  | .leaf, a => [a]
  | .node l r, a => addrs l (a ++ [48]) ++ addrs r (a ++ [49])
def atT : List UInt8 → Tr → Option Tr
  | [], t => some t
  | _ :: _, .leaf => none
  | c :: l, .node a b => if c = 48 then atT l a else if c = 49 then atT l b else none
theorem addrs_length : ∀ (T : Tr) (a : List UInt8), (addrs T a).length = T.carets + 1
  | .leaf, _ => rfl
  | .node l r, a => by simp only [addrs, List.length_append, addrs_length l, addrs_length r, Tr.carets]; omega
theorem addrs_pre : ∀ (T : Tr) (p a : List UInt8), addrs T (p ++ a) = (addrs T a).map (p ++ ·)
  | .leaf, p, a => rfl
  | .node l r, p, a => by simp only [addrs, List.map_append, List.append_assoc, addrs_pre l p, addrs_pre r p]
theorem addrs_depth : ∀ (T : Tr) (a x : List UInt8), x ∈ addrs T a → x.length ≤ a.length + T.depth
  | .leaf, a, x, h => by simp [addrs] at h; subst h; simp [Tr.depth]
  | .node l r, a, x, h => by
    simp only [addrs, List.mem_append] at h
    simp only [Tr.depth]
    rcases h with h | h
    · have := addrs_depth l _ x h; simp at this; omega
    · have := addrs_depth r _ x h; simp at this; omega
theorem at_parts : ∀ (t w : Tr), Part t w → ∀ (i : Nat) (a : List UInt8), (addrs t [])[i]? = some a → atT a w = (partsT t w)[i]?
  | .leaf, w, _, i, a, h => by
    cases i with
    | zero => simp [addrs] at h; subst h; rfl
    | succ i => simp [addrs] at h
  | .node _ _, .leaf, h, _, _, _ => h.elim
  | .node l r, .node a b, h, i, x, hx => by
    simp only [addrs, List.nil_append] at hx
    rw [show addrs l [48] = (addrs l []).map ([48] ++ ·) from addrs_pre l [48] [], show addrs r [49] = (addrs r []).map ([49] ++ ·) from addrs_pre r [49] [], List.getElem?_append] at hx
    simp only [List.length_map, addrs_length] at hx
    simp only [partsT]
    rw [List.getElem?_append, parts_length l a h.1]
    split at hx
    · rename_i hi
      rw [if_pos hi]
      rw [List.getElem?_map, Option.map_eq_some_iff] at hx
      obtain ⟨y, hy, rfl⟩ := hx
      have := at_parts l a h.1 i y hy
      simpa [atT] using this
    · rename_i hi
      rw [if_neg hi]
      rw [List.getElem?_map, Option.map_eq_some_iff] at hx
      obtain ⟨y, hy, rfl⟩ := hx
      have := at_parts r b h.2 _ y hy
      simpa [atT] using this
def mul0 (p q : Tr × Tr) : Tr × Tr := (fill p.1 (partsT p.2 (join p.2 q.1)), fill q.2 (partsT q.1 (join p.2 q.1)))
def mul (p q : Tr × Tr) : Tr × Tr := red (mul0 p q)
theorem mul0_carets {p q : Tr × Tr} (hp : p.1.carets = p.2.carets) (hq : q.1.carets = q.2.carets) : (mul0 p q).1.carets = (join p.2 q.1).carets ∧ (mul0 p q).2.carets = (join p.2 q.1).carets := by
  have h1 := part_join_l p.2 q.1
  have h2 := part_join_r p.2 q.1
  have l1 := parts_length _ _ h1
  have l2 := parts_length _ _ h2
  have s1 := parts_sum _ _ h1
  have s2 := parts_sum _ _ h2
  unfold mul0
  simp only
  rw [fill_carets _ _ (by omega), fill_carets _ _ (by omega)]
  omega
theorem mul_carets {p q : Tr × Tr} (hp : p.1.carets = p.2.carets) (hq : q.1.carets = q.2.carets) : (mul p q).1.carets = (mul p q).2.carets ∧ (mul p q).2.carets ≤ p.2.carets + q.1.carets := by
  obtain ⟨h1, h2⟩ := mul0_carets hp hq
  have h3 := red_same (p := mul0 p q) (by rw [h1, h2])
  have h4 := red_le (mul0 p q)
  have h5 := join_carets p.2 q.1
  unfold mul
  exact ⟨h3, by omega⟩
end Go.Proofs.Ytijnadjgmmednaa.N
namespace Go.Proofs.Ytijnadjgmmednaa.N
abbrev Str := Nat → Bool
def scons (b : Bool) (s : Str) : Str := fun n => match n with | 0 => b | n + 1 => s n
def stail (s : Str) : Str := fun n => s (n + 1)
def sapp : List Bool → Str → Str
  | [], s => s
  | b :: l, s => scons b (sapp l s)
theorem scons_head (b : Bool) (s : Str) : scons b s 0 = b := rfl
theorem stail_scons (b : Bool) (s : Str) : stail (scons b s) = s := rfl
theorem scons_eta (s : Str) : scons (s 0) (stail s) = s := by funext n; cases n <;> rfl
theorem scons_inj {a b : Bool} {s t : Str} (h : scons a s = scons b t) : a = b ∧ s = t := ⟨congrFun h 0, by have := congrArg stail h; exact this⟩
theorem sapp_app (a b : List Bool) (s : Str) : sapp (a ++ b) s = sapp a (sapp b s) := by
  induction a with
  | nil => rfl
  | cons x a ih => simp only [List.cons_append, sapp, ih]
theorem sapp_cancel : ∀ (a b : List Bool), (∀ s, sapp a s = sapp b s) → a = b
  | [], [], _ => rfl
  | [], x :: b, h => by have := congrFun (h (fun _ => !x)) 0; simp [sapp, scons] at this
  | x :: a, [], h => by have := congrFun (h (fun _ => !x)) 0; simp [sapp, scons] at this
  | x :: a, y :: b, h => by
    have h0 := (scons_inj (h fun _ => true)).1
    rw [h0, sapp_cancel a b fun s => (scons_inj (h s)).2]
def adr : Tr → Nat → List Bool
  | .leaf, _ => []
  | .node l r, k => if k < l.carets + 1 then false :: adr l k else true :: adr r (k - (l.carets + 1))
def find : Tr → Str → Nat × Str
  | .leaf, s => (0, s)
  | .node l r, s => if s 0 = false then find l (stail s) else ((find r (stail s)).1 + (l.carets + 1), (find r (stail s)).2)
theorem find_le : ∀ (T : Tr) (s : Str), (find T s).1 ≤ T.carets
  | .leaf, s => Nat.le_refl _
  | .node l r, s => by
    have := find_le l (stail s)
    have := find_le r (stail s)
    simp only [find, Tr.carets]
    split
    · omega
    · simp only; omega
theorem adr_find : ∀ (T : Tr) (s : Str), sapp (adr T (find T s).1) (find T s).2 = s
  | .leaf, s => rfl
  | .node l r, s => by
    have h1 := find_le l (stail s)
    simp only [find]
    split
    · rename_i h
      simp only [adr]
      rw [if_pos (by omega)]
      simp only [sapp, adr_find l (stail s)]
      rw [← h, scons_eta]
    · rename_i h
      simp only [adr]
      rw [if_neg (by omega), Nat.add_sub_cancel]
      simp only [sapp, adr_find r (stail s)]
      rw [← show s 0 = true by cases e : s 0 with | true => rfl | false => exact absurd e h, scons_eta]
theorem find_adr : ∀ (T : Tr) (k : Nat) (s : Str), k ≤ T.carets → find T (sapp (adr T k) s) = (k, s)
  | .leaf, k, s, h => by
    have : k = 0 := by simp only [Tr.carets] at h; omega
    subst this; rfl
  | .node l r, k, s, h => by
    simp only [Tr.carets] at h
    simp only [adr]
    split
    · rename_i hk
      simp only [sapp, find, scons_head, stail_scons, if_true]
      exact find_adr l k s (by omega)
    · rename_i hk
      simp only [sapp, find, scons_head, stail_scons, Bool.true_eq_false, if_false]
      rw [find_adr r _ s (by omega)]
      simp only [Prod.mk.injEq, and_true]; omega
def act (p : Tr × Tr) (s : Str) : Str := sapp (adr p.2 (find p.1 s).1) (find p.1 s).2
theorem act_at (p : Tr × Tr) (k : Nat) (hk : k ≤ p.1.carets) (s : Str) : act p (sapp (adr p.1 k) s) = sapp (adr p.2 k) s := by
  unfold act; rw [find_adr p.1 k s hk]
def off (L : List Tr) : Nat → Nat
  | 0 => 0
  | k + 1 => off L k + ((L.getD k .leaf).carets + 1)
theorem off_grown (L : List Tr) : ∀ (T : Tr) (k : Nat), off L (k + (T.carets + 1)) = off L k + ((T.grown (fun i => L.getD i .leaf) k).carets + 1)
  | .leaf, k => rfl
  | .node l r, k => by
    have h1 := off_grown L l k
    have h2 := off_grown L r (k + (l.carets + 1))
    simp only [Tr.grown, Tr.carets]
    rw [show k + (1 + l.carets + r.carets + 1) = k + (l.carets + 1) + (r.carets + 1) by omega, h2, h1]; omega
theorem off_mono (L : List Tr) : ∀ (j k : Nat), off L k ≤ off L (k + j)
  | 0, k => Nat.le_refl _
  | j + 1, k => by
    have := off_mono L j k
    rw [← Nat.add_assoc]; simp only [off]; omega
theorem off_lt (L : List Tr) {k m : Nat} (h : k < m) : off L k + ((L.getD k .leaf).carets + 1) ≤ off L m := by
  have := off_mono L (m - (k + 1)) (k + 1)
  rw [show k + 1 + (m - (k + 1)) = m by omega] at this
  simpa [off] using this
theorem grown_adr (L : List Tr) : ∀ (T : Tr) (b k j : Nat), k ≤ T.carets → j ≤ (L.getD (b + k) .leaf).carets → adr (T.grown (fun i => L.getD i .leaf) b) (off L (b + k) - off L b + j) = adr T k ++ adr (L.getD (b + k) .leaf) j
  | .leaf, b, k, j, hk, hj => by
    have : k = 0 := by simp only [Tr.carets] at hk; omega
    subst this
    simp [Tr.grown, adr]
  | .node l r, b, k, j, hk, hj => by
    simp only [Tr.carets] at hk
    have ho := off_grown L l b
    have h0 := off_mono L k b
    simp only [Tr.grown, adr]
    by_cases h : k < l.carets + 1
    · have h1 := off_lt L (show b + k < b + (l.carets + 1) by omega)
      rw [if_pos (by omega), if_pos h, grown_adr L l b k j (by omega) hj]; rfl
    · have h1 := off_mono L (k - (l.carets + 1)) (b + (l.carets + 1))
      rw [show b + (l.carets + 1) + (k - (l.carets + 1)) = b + k by omega] at h1
      rw [if_neg (by omega), if_neg h]
      have := grown_adr L r (b + (l.carets + 1)) (k - (l.carets + 1)) j (by omega) (by rw [show b + (l.carets + 1) + (k - (l.carets + 1)) = b + k by omega]; exact hj)
      rw [show b + (l.carets + 1) + (k - (l.carets + 1)) = b + k by omega] at this
      rw [List.cons_append, ← this]
      congr 2
      omega
theorem fill_adr (L : List Tr) (T : Tr) (k j : Nat) (hk : k ≤ T.carets) (hj : j ≤ (L.getD k .leaf).carets) : adr (fill T L) (off L k + j) = adr T k ++ adr (L.getD k .leaf) j := by
  have := grown_adr L T 0 k j hk (by rw [Nat.zero_add]; exact hj)
  rw [Nat.zero_add, show off L 0 = 0 from rfl, Nat.sub_zero] at this
  exact this
theorem fill_off (L : List Tr) (T : Tr) : off L (T.carets + 1) = (fill T L).carets + 1 := by
  have := off_grown L T 0
  rw [Nat.zero_add, show off L 0 = 0 from rfl, Nat.zero_add] at this
  exact this
theorem off_split (L : List Tr) : ∀ (n i : Nat), i < off L n → ∃ k j, k < n ∧ j ≤ (L.getD k .leaf).carets ∧ i = off L k + j
  | 0, i, h => by simp [off] at h
  | n + 1, i, h => by
    by_cases hi : i < off L n
    · obtain ⟨k, j, h1, h2, h3⟩ := off_split L n i hi
      exact ⟨k, j, by omega, h2, h3⟩
    · simp only [off] at h
      exact ⟨n, i - off L n, by omega, by omega, by omega⟩
theorem grown_append (A B : List Tr) : ∀ (T : Tr) (k : Nat), k + T.carets < A.length → T.grown (fun i => (A ++ B).getD i .leaf) k = T.grown (fun i => A.getD i .leaf) k
  | .leaf, k, h => by simp only [Tr.grown, List.getD_eq_getElem?_getD]; rw [List.getElem?_append_left (by omega)]
  | .node l r, k, h => by
    simp only [Tr.carets] at h
    simp only [Tr.grown]
    rw [grown_append A B l k (by omega), grown_append A B r _ (by omega)]
theorem grown_behind (A B : List Tr) : ∀ (T : Tr) (k : Nat), T.grown (fun i => (A ++ B).getD i .leaf) (A.length + k) = T.grown (fun i => B.getD i .leaf) k
  | .leaf, k => by simp only [Tr.grown, List.getD_eq_getElem?_getD]; rw [List.getElem?_append_right (by omega), Nat.add_sub_cancel_left]
  | .node l r, k => by
    simp only [Tr.grown]
    rw [grown_behind A B l k, Nat.add_assoc, grown_behind A B r _]
theorem fill_parts : ∀ (t w : Tr), Part t w → fill t (partsT t w) = w
  | .leaf, w, _ => rfl
  | .node _ _, .leaf, h => h.elim
  | .node l r, .node a b, h => by
    have l1 := parts_length l a h.1
    have i1 := fill_parts l a h.1
    have i2 := fill_parts r b h.2
    unfold fill at i1 i2 ⊢
    simp only [partsT, Tr.grown]
    rw [grown_append _ _ l 0 (by omega), i1]
    have := grown_behind (partsT l a) (partsT r b) r 0
    rw [Nat.add_zero, l1] at this
    rw [Nat.zero_add, this, i2]
theorem act_mul0 (p q : Tr × Tr) (hp : p.1.carets = p.2.carets) (hq : q.1.carets = q.2.carets) (s : Str) : act (mul0 p q) s = act q (act p s) := by
  have P1 := part_join_l p.2 q.1
  have P2 := part_join_r p.2 q.1
  have F1 := fill_parts _ _ P1
  have F2 := fill_parts _ _ P2
  unfold mul0
  generalize join p.2 q.1 = J at *
  generalize partsT p.2 J = P at *
  generalize partsT q.1 J = Q at *
  obtain ⟨k, hk, t, rfl⟩ : ∃ k, k ≤ p.1.carets ∧ ∃ t, s = sapp (adr p.1 k) t := ⟨_, find_le p.1 s, _, (adr_find p.1 s).symm⟩
  rw [act_at p k hk]
  obtain ⟨j, hj, u, rfl⟩ : ∃ j, j ≤ (P.getD k .leaf).carets ∧ ∃ u, t = sapp (adr (P.getD k .leaf) j) u := ⟨_, find_le _ t, _, (adr_find _ t).symm⟩
  rw [← sapp_app, ← fill_adr P p.1 k j hk hj, ← sapp_app, ← fill_adr P p.2 k j (by omega) hj, F1]
  have b1 := off_lt P (show k < p.2.carets + 1 by omega)
  rw [fill_off, F1] at b1
  have b2 := off_lt P (show k < p.1.carets + 1 by omega)
  rw [fill_off] at b2
  obtain ⟨m, i, hm, hi, e⟩ := off_split Q (q.1.carets + 1) (off P k + j) (by rw [fill_off, F2]; omega)
  rw [act_at (fill p.1 P, fill q.2 Q) (off P k + j) (by simp only; omega)]
  simp only
  rw [e, fill_adr Q q.2 m i (by omega) hi, show adr J (off Q m + i) = adr q.1 m ++ adr (Q.getD m .leaf) i by rw [← fill_adr Q q.1 m i (by omega) hi, F2], sapp_app, sapp_app, act_at q m (by omega)]
theorem carets_zero {T : Tr} (h : T.carets = 0) : T = .leaf := by
  cases T with
  | leaf => rfl
  | node l r => simp only [Tr.carets] at h; omega
theorem expo_adr : ∀ (T : Tr) (k : Nat), k ∈ expo T 0 → adr T k = adr (without T k) k ++ [false] ∧ adr T (k + 1) = adr (without T k) k ++ [true] ∧ (∀ i, i < k → adr T i = adr (without T k) i) ∧ (∀ i, k + 1 < i → i ≤ T.carets → adr T i = adr (without T k) (i - 1))
  | .leaf, _, h => by cases h
  | .node l r, k, h => by
    by_cases hl : l = .leaf ∧ r = .leaf
    · obtain ⟨rfl, rfl⟩ := hl
      simp only [expo, List.mem_singleton] at h
      subst h
      exact ⟨rfl, rfl, fun i hi => by omega, fun i hi h2 => by simp only [Tr.carets] at h2; omega⟩
    · rcases mem_expo_node hl h with ⟨h1, h2⟩ | ⟨h1, h2⟩
      · obtain ⟨a1, a2, a3, a4⟩ := expo_adr l k h2
        have hc := without_carets l k h2
        have hr := expo_range l 0 k h2
        rw [without_node hl, if_neg (by omega)]
        simp only [adr]
        refine ⟨?_, ?_, fun i hi => ?_, fun i hi hi2 => ?_⟩
        · rw [if_pos (by omega), if_pos (by omega), a1]; rfl
        · rw [if_pos (by omega), if_pos (by omega), a2]; rfl
        · rw [if_pos (by omega), if_pos (by omega), a3 i hi]
        · by_cases hi3 : i < l.carets + 1
          · rw [if_pos hi3, if_pos (by omega), a4 i hi (by omega)]
          · rw [if_neg hi3, if_neg (by omega)]
            congr 2; omega
      · obtain ⟨a1, a2, a3, a4⟩ := expo_adr r (k - (l.carets + 1)) h2
        rw [without_node hl, if_pos h1]
        simp only [adr]
        refine ⟨?_, ?_, fun i hi => ?_, fun i hi hi2 => ?_⟩
        · rw [if_neg (by omega), if_neg (by omega), a1]; rfl
        · rw [if_neg (by omega), if_neg (by omega), show k + 1 - (l.carets + 1) = k - (l.carets + 1) + 1 by omega, a2]; rfl
        · by_cases hi3 : i < l.carets + 1
          · rw [if_pos hi3, if_pos hi3]
          · rw [if_neg hi3, if_neg hi3, a3 _ (by omega)]
        · simp only [Tr.carets] at hi2
          rw [if_neg (by omega), if_neg (by omega), a4 _ (by omega) (by omega)]
          congr 2; omega
theorem cons_snoc {a b : Bool} {x w : List Bool} (h : a :: x = w ++ [b]) : (w = [] ∧ a = b ∧ x = []) ∨ ∃ v, w = a :: v ∧ x = v ++ [b] := by
  cases w with
  | nil => simp at h; exact .inl ⟨rfl, h.1, h.2⟩
  | cons c w => simp at h; exact .inr ⟨w, by rw [h.1], h.2⟩
theorem adr_nil_first : ∀ {T : Tr} {k : Nat}, adr T k = [] → T = .leaf
  | .leaf, _, _ => rfl
  | .node l r, k, h => by simp only [adr] at h; split at h <;> cases h
theorem adr_expo : ∀ (T : Tr) (k : Nat) (w : List Bool), k + 1 ≤ T.carets → adr T k = w ++ [false] → adr T (k + 1) = w ++ [true] → k ∈ expo T 0
  | .leaf, k, w, h, _, _ => by simp only [Tr.carets] at h; omega
  | .node l r, k, w, h, h1, h2 => by
    by_cases hl : l = .leaf ∧ r = .leaf
    · obtain ⟨rfl, rfl⟩ := hl
      have : k = 0 := by simp only [Tr.carets] at h; omega
      subst this
      simp [expo]
    · rw [expo_node hl]
      simp only [Tr.carets] at h
      simp only [adr] at h1 h2
      rw [List.mem_append]
      by_cases ha : k + 1 < l.carets + 1
      · left
        rw [if_pos (by omega)] at h1
        rw [if_pos ha] at h2
        rcases cons_snoc h1 with ⟨rfl, _, _⟩ | ⟨v, rfl, hv⟩
        · simp at h2
        · exact adr_expo l k v (by omega) hv (by simpa using h2)
      · by_cases hb : k < l.carets + 1
        · exfalso
          rw [if_pos hb] at h1
          rw [if_neg ha] at h2
          rcases cons_snoc h1 with ⟨rfl, _, h3⟩ | ⟨v, rfl, hv⟩
          · simp at h2
            exact hl ⟨adr_nil_first h3, adr_nil_first h2⟩
          · simp at h2
        · right
          rw [if_neg hb] at h1
          rw [if_neg ha] at h2
          have e : 0 + (l.carets + 1) = l.carets + 1 := by omega
          rw [← e, expo_shift, List.mem_map]
          refine ⟨k - (l.carets + 1), ?_, by omega⟩
          rcases cons_snoc h1 with ⟨rfl, h3, _⟩ | ⟨v, rfl, hv⟩
          · cases h3
          · exact adr_expo r _ v (by omega) hv (by rw [show k - (l.carets + 1) + 1 = k + 1 - (l.carets + 1) by omega]; simpa using h2)
theorem expo_some' : ∀ (T : Tr), T ≠ .leaf → ∃ k, k ∈ expo T 0
  | .leaf, h => absurd rfl h
  | .node .leaf .leaf, _ => ⟨0, by simp [expo]⟩
  | .node (.node a b) r, _ => by
    obtain ⟨k, hk⟩ := expo_some' (.node a b) (by simp)
    exact ⟨k, by rw [expo_node (nl_l a b r)]; exact List.mem_append_left _ hk⟩
  | .node .leaf (.node a b), _ => by
    obtain ⟨k, hk⟩ := expo_some' (.node a b) (by simp)
    refine ⟨k + (Tr.leaf.carets + 1), ?_⟩
    rw [expo_node (nl_r a b), Nat.zero_add]
    refine List.mem_append_right _ ?_
    have := expo_shift (.node a b) 0 (Tr.leaf.carets + 1)
    rw [Nat.zero_add] at this
    rw [this]
    exact List.mem_map_of_mem hk
theorem expo_some (l r : Tr) : ∃ k, k ∈ expo (.node l r) 0 := expo_some' _ (by simp)
def Bal (p : Tr × Tr) : Prop := p.1.carets = p.2.carets
theorem act_without (A B : Tr) (hc : A.carets = B.carets) (k : Nat) (h : k ∈ bothT A B) (s : Str) : act (without A k, without B k) s = act (A, B) s := by
  obtain ⟨hA, hB⟩ := mem_both h
  obtain ⟨a1, a2, a3, a4⟩ := expo_adr A k hA
  obtain ⟨b1, b2, b3, b4⟩ := expo_adr B k hB
  have cA := without_carets A k hA
  have cB := without_carets B k hB
  have rA := expo_range A 0 k hA
  obtain ⟨i, hi, t, rfl⟩ : ∃ i, i ≤ A.carets ∧ ∃ t, s = sapp (adr A i) t := ⟨_, find_le A s, _, (adr_find A s).symm⟩
  rw [act_at (A, B) i hi]
  simp only
  have key : ∀ j u, j ≤ (without A k).carets → act (without A k, without B k) (sapp (adr (without A k) j) u) = sapp (adr (without B k) j) u := fun j u hj => act_at (without A k, without B k) j hj u
  rcases Nat.lt_trichotomy i k with h1 | h1 | h1
  · rw [a3 i h1, b3 i h1, key i t (by omega)]
  · subst h1
    rw [a1, b1, sapp_app, sapp_app, key _ _ (by omega)]
  · by_cases h2 : i = k + 1
    · subst h2
      rw [a2, b2, sapp_app, sapp_app, key _ _ (by omega)]
    · rw [a4 i (by omega) hi, b4 i (by omega) (by omega), key _ _ (by omega)]
theorem act_redF : ∀ (n : Nat) (p : Tr × Tr), Bal p → ∀ s, act (redF n p) s = act p s
  | 0, p, _, s => rfl
  | n + 1, p, h, s => by
    simp only [redF]
    cases hb : bothT p.1 p.2 with
    | nil => rfl
    | cons k l =>
      have hk : k ∈ bothT p.1 p.2 := by rw [hb]; exact List.mem_cons_self
      obtain ⟨hA, hB⟩ := mem_both hk
      have cA := without_carets p.1 k hA
      have cB := without_carets p.2 k hB
      unfold Bal at h
      simp only
      rw [act_redF n (without p.1 k, without p.2 k) (by unfold Bal; simp only; omega) s, act_without p.1 p.2 h k hk s]
theorem act_red {p : Tr × Tr} (h : Bal p) (s : Str) : act (red p) s = act p s := act_redF _ p h s
theorem Bal.red {p : Tr × Tr} (h : Bal p) : Bal (red p) := red_same h
theorem Bal.mul {p q : Tr × Tr} (hp : Bal p) (hq : Bal q) : Bal (mul p q) := (mul_carets hp hq).1
theorem act_mul {p q : Tr × Tr} (hp : Bal p) (hq : Bal q) (s : Str) : act (mul p q) s = act q (act p s) := by
  unfold mul
  obtain ⟨h1, h2⟩ := mul0_carets hp hq
  rw [act_red (by unfold Bal; rw [h1, h2]), act_mul0 p q hp hq]
def Sub (T : Tr) (v : List Bool) (i : Nat) (U : Tr) : Prop := i + U.carets ≤ T.carets ∧ ∀ m, m ≤ U.carets → adr T (i + m) = v ++ adr U m
theorem Sub.refl (T : Tr) : Sub T [] 0 T := ⟨by omega, fun m _ => by rw [Nat.zero_add]; rfl⟩
theorem Sub.left {T : Tr} {v : List Bool} {i : Nat} {l r : Tr} (h : Sub T v i (.node l r)) : Sub T (v ++ [false]) i l := by
  obtain ⟨h1, h2⟩ := h
  simp only [Tr.carets] at h1 h2
  refine ⟨by omega, fun m hm => ?_⟩
  rw [h2 m (by omega)]
  simp only [adr]
  rw [if_pos (by omega)]
  simp
theorem Sub.right {T : Tr} {v : List Bool} {i : Nat} {l r : Tr} (h : Sub T v i (.node l r)) : Sub T (v ++ [true]) (i + (l.carets + 1)) r := by
  obtain ⟨h1, h2⟩ := h
  simp only [Tr.carets] at h1 h2
  refine ⟨by omega, fun m hm => ?_⟩
  rw [Nat.add_assoc, h2 _ (by omega)]
  simp only [adr]
  rw [if_neg (by omega), Nat.add_sub_cancel_left]
  simp
theorem not_solid {p q : Tr × Tr} {v : List Bool} {i j : Nat} {l r : Tr} (hq : Bal q) (hb : bothT q.1 q.2 = []) (ha : ∀ s, act p s = act q s) (h1 : Sub p.1 v i .leaf) (h2 : Sub q.1 v j (.node l r)) : False := by
  have hv : adr p.1 i = v := by have := h1.2 0 (Nat.le_refl _); simpa [adr] using this
  have hi : i ≤ p.1.carets := by have := h1.1; simp only [Tr.carets] at this; omega
  have key : ∀ m, m ≤ (Tr.node l r).carets → adr q.2 (j + m) = adr p.2 i ++ adr (.node l r) m := fun m hm => sapp_cancel _ _ fun s => by
    have e1 := act_at q (j + m) (by have := h2.1; omega) s
    have e2 := act_at p i hi (sapp (adr (.node l r) m) s)
    rw [hv, ← sapp_app, ← h2.2 m hm, ha, e1] at e2
    rw [sapp_app]; exact e2
  obtain ⟨k, hk⟩ := expo_some l r
  have kr := expo_range _ _ _ hk
  obtain ⟨a1, a2, _, _⟩ := expo_adr _ _ hk
  have hle := h2.1
  unfold Bal at hq
  have m1 : j + k ∈ expo q.1 0 := adr_expo q.1 (j + k) (v ++ adr (without (.node l r) k) k) (by omega) (by rw [h2.2 k (by omega), a1, List.append_assoc]) (by rw [Nat.add_assoc, h2.2 (k + 1) (by omega), a2, List.append_assoc])
  have m2 : j + k ∈ expo q.2 0 := adr_expo q.2 (j + k) (adr p.2 i ++ adr (without (.node l r) k) k) (by omega) (by rw [key k (by omega), a1, List.append_assoc]) (by rw [Nat.add_assoc, key (k + 1) (by omega), a2, List.append_assoc])
  exact both_nil.1 hb _ m1 m2
theorem same_sub {p q : Tr × Tr} (hp : Bal p) (hq : Bal q) (bp : bothT p.1 p.2 = []) (bq : bothT q.1 q.2 = []) (ha : ∀ s, act p s = act q s) : ∀ (U V : Tr) (v : List Bool) (i j : Nat), Sub p.1 v i U → Sub q.1 v j V → U = V
  | .leaf, .leaf, _, _, _, _, _ => rfl
  | .leaf, .node l r, v, i, j, h1, h2 => (not_solid hq bq ha h1 h2).elim
  | .node l r, .leaf, v, i, j, h1, h2 => (not_solid hp bp (fun s => (ha s).symm) h2 h1).elim
  | .node l r, .node a b, v, i, j, h1, h2 => by
    rw [same_sub hp hq bp bq ha l a _ _ _ h1.left h2.left, same_sub hp hq bp bq ha r b _ _ _ h1.right h2.right]
theorem adr_inj : ∀ (A B : Tr), A.carets = B.carets → (∀ k, k ≤ A.carets → adr A k = adr B k) → A = B
  | .leaf, B, h, _ => (carets_zero h.symm).symm
  | .node l r, .leaf, h, _ => by simp only [Tr.carets] at h; omega
  | .node l r, .node a b, h, hk => by
    simp only [Tr.carets] at h hk
    have hc : l.carets = a.carets := by
      rcases Nat.lt_trichotomy l.carets a.carets with h1 | h1 | h1
      · have := hk (l.carets + 1) (by omega)
        simp only [adr] at this
        rw [if_neg (by omega), if_pos (by omega)] at this
        simp at this
      · exact h1
      · have := hk (a.carets + 1) (by omega)
        simp only [adr] at this
        rw [if_pos (by omega), if_neg (by omega)] at this
        simp at this
    rw [adr_inj l a hc fun k hl => by
        have := hk k (by omega)
        simp only [adr] at this
        rw [if_pos (by omega), if_pos (by omega)] at this
        simpa using this,
      adr_inj r b (by omega) fun k hl => by
        have := hk (k + (l.carets + 1)) (by omega)
        simp only [adr] at this
        rw [if_neg (by omega), if_neg (by omega), hc, Nat.add_sub_cancel] at this
        simpa using this]
theorem pair_ext {p q : Tr × Tr} (hp : Bal p) (hq : Bal q) (bp : bothT p.1 p.2 = []) (bq : bothT q.1 q.2 = []) (ha : ∀ s, act p s = act q s) : p = q := by
  have h1 : p.1 = q.1 := same_sub hp hq bp bq ha p.1 q.1 [] 0 0 (Sub.refl _) (Sub.refl _)
  obtain ⟨A, B⟩ := p
  obtain ⟨C, D⟩ := q
  simp only at h1
  subst h1
  unfold Bal at hp hq
  simp only at hp hq
  rw [adr_inj B D (by omega) fun k hk => sapp_cancel _ _ fun s => by
    have e1 := act_at (A, B) k (by simp only; omega) s
    have e2 := act_at (A, D) k (by simp only; omega) s
    rw [ha, e2] at e1
    exact e1.symm]
theorem red_ext {p q : Tr × Tr} (hp : Bal p) (hq : Bal q) (ha : ∀ s, act p s = act q s) : red p = red q :=
  pair_ext hp.red hq.red (red_both p) (red_both q) fun s => by rw [act_red hp, act_red hq, ha]
def one : Tr × Tr := (.leaf, .leaf)
theorem Bal.one : Bal one := rfl
theorem act_one (s : Str) : act one s = s := rfl
theorem mul_ext {p q r t : Tr × Tr} (hp : Bal p) (hq : Bal q) (hr : Bal r) (ht : Bal t) (h : ∀ s, act q (act p s) = act t (act r s)) : mul p q = mul r t :=
  pair_ext (hp.mul hq) (hr.mul ht) (red_both _) (red_both _) fun s => by rw [act_mul hp hq, act_mul hr ht, h]
theorem mul_assoc {p q r : Tr × Tr} (hp : Bal p) (hq : Bal q) (hr : Bal r) : mul (mul p q) r = mul p (mul q r) :=
  mul_ext (hp.mul hq) hr hp (hq.mul hr) fun s => by rw [act_mul hp hq, act_mul hq hr]
theorem mul_one {p : Tr × Tr} (hp : Bal p) : mul p one = red p :=
  pair_ext (hp.mul Bal.one) hp.red (red_both _) (red_both _) fun s => by rw [act_mul hp Bal.one, act_red hp, act_one]
theorem one_mul {p : Tr × Tr} (hp : Bal p) : mul one p = red p :=
  pair_ext (Bal.one.mul hp) hp.red (red_both _) (red_both _) fun s => by rw [act_mul Bal.one hp, act_red hp, act_one]
end Go.Proofs.Ytijnadjgmmednaa.N
namespace Go.Proofs.Ytijnadjgmmednaa.N
def Rev {α : Type} (l : List α) (k : Nat) (c : List α) : Prop := c.length = l.length ∧ ∀ i, i < l.length → c[i]? = if i < k ∨ l.length - k ≤ i then l[l.length - 1 - i]? else l[i]?
theorem Rev.zero {α : Type} (l : List α) : Rev l 0 l := ⟨rfl, fun i hi => by rw [if_neg (by omega)]⟩
theorem Rev.step {α : Type} {l c : List α} {k : Nat} {x y : α} (h : Rev l k c) (hk : k < l.length - 1 - k) (hx : c[k]? = some x) (hy : c[l.length - 1 - k]? = some y) : Rev l (k + 1) ((c.set k y).set (l.length - 1 - k) x) := by
  obtain ⟨h1, h2⟩ := h
  have hxx := h2 k (by omega)
  rw [if_neg (by omega), hx] at hxx
  have hyy := h2 (l.length - 1 - k) (by omega)
  rw [if_neg (by omega), hy] at hyy
  refine ⟨by simp [h1], fun i hi => ?_⟩
  rw [List.getElem?_set, List.getElem?_set]
  by_cases e1 : l.length - 1 - k = i
  · subst e1
    rw [if_pos rfl, if_pos (by simp; omega), if_pos (by omega), show l.length - 1 - (l.length - 1 - k) = k by omega, hxx]
  · rw [if_neg e1]
    by_cases e2 : k = i
    · subst e2
      rw [if_pos rfl, if_pos (by omega), if_pos (by omega), hyy]
    · rw [if_neg e2, h2 i hi]
      by_cases e3 : i < k ∨ l.length - k ≤ i
      · rw [if_pos e3, if_pos (by omega)]
      · rw [if_neg e3, if_neg (by omega)]
theorem Rev.done {α : Type} {l c : List α} {k : Nat} (h : Rev l k c) (hk : l.length ≤ 2 * k + 1) : c = l.reverse := by
  apply List.ext_getElem?
  intro i
  by_cases hi : i < l.length
  · rw [h.2 i hi, List.getElem?_reverse hi]
    by_cases e : i < k ∨ l.length - k ≤ i
    · rw [if_pos e]
    · rw [if_neg e]; congr 1; omega
  · rw [List.getElem?_eq_none (by rw [h.1]; omega), List.getElem?_eq_none (by simp; omega)]
end Go.Proofs.Ytijnadjgmmednaa.N
