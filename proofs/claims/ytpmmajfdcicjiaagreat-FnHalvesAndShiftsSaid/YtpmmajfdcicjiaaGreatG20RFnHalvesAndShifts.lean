import Derived.Test.YtpmmajfdcicjiaaGreatG1RFnHalvesAndShifts
import Derived.Test.YtpmmajfdcicjiaaGreatG2RFnHalvesAndShifts
import Derived.Test.YtpmmajfdcicjiaaGreatProg
import Derived.Test.YtpmmajfdcicjiaaGreatG3RFnHalvesAndShifts
import Derived.Test.YtpmmajfdcicjiaaGreatG4RFnHalvesAndShifts
import Derived.Test.YtpmmajfdcicjiaaGreatG12RFnHalvesAndShifts
import Derived.Test.YtpmmajfdcicjiaaGreatG5RFnHalvesAndShifts
import Derived.Test.YtpmmajfdcicjiaaGreatG16RFnHalvesAndShifts
import Derived.Deep.LoopGhost
import Derived.Test.YtpmmajfdcicjiaaGreatG17RFnHalvesAndShifts
import Derived.Test.YtpmmajfdcicjiaaGreatG7RFnHalvesAndShifts
import Derived.Test.YtpmmajfdcicjiaaGreatG6RFnHalvesAndShifts
import Derived.Test.YtpmmajfdcicjiaaGreatG8RFnHalvesAndShifts
import Derived.Deep.RegionHeld3
import Derived.Deep.QuietTactic
import Derived.StillTailTactics
/- Texts filled, as the reference has them. -/
namespace Go.Proofs.YtpmmajfdcicjiaaGreat.N
open Go.RowKit
set_option linter.unusedVariables false
set_option linter.unusedSimpArgs false

theorem one_byte (l : List UInt8) (j : Nat) (c : UInt8) (h : l[j]? = some c) : (S l).extract j (j + 1) = S [c] := by
  obtain ⟨h1, h2⟩ := List.getElem?_eq_some_iff.1 h
  rw [S_extract, List.take_add_one, h, List.drop_append]
  simp [List.length_take, Nat.min_eq_left (Nat.le_of_lt h1)]
set_option maxHeartbeats 3200000 in
set_option maxRecDepth 100000 in
theorem prFill_calls (l : List UInt8) (ps : List ByteArray) (hl : l.length < 1000000) (hp : ps.length < 1000000) (hd : dots l ≤ ps.length) (hb : ∀ p ∈ ps, p.size ≤ 100000) (v : Value) (w : World) (hv : Reads w v (strs ps)) :
    Calls Tryz.prog 152 #[.string (S l), v] w fun e w' => e = .returned (.string (S (fillP l ps))) ∧ w = w' := by
  obtain ⟨A, cp, rfl, _, rd⟩ := hv
  rw [strs_length] at *
  have RD := Lib.hid rd
  have HD := Lib.hid (And.intro hd hb)
  clear rd hd hb
  go_enter Tryz.func152, Tryz.ntmps152
  go_wp2_with fail
  go_loop [5, 6, 7] (fun o n i => ∃ (j k : Nat) (acc : List UInt8), j ≤ l.length ∧ k ≤ j ∧ i = .int .i64 j ∧ n = .int .i64 k ∧ o = .string (S acc) ∧ Hid (k = dots (l.take j)) ∧ Hid (acc.length ≤ j * 100001) ∧ Hid (fillP l ps = acc ++ fillP (l.drop j) (ps.drop k))) (fun _ _ i => l.length - (intOf i).toNat)
  case atStart => exact ⟨0, 0, [], Nat.zero_le _, Nat.le_refl _, rfl, rfl, rfl, rfl, Nat.zero_le _, rfl⟩
  case round =>
    obtain ⟨j, k, acc, hj, hk, rfl, rfl, rfl, HK, HA, HF⟩ := hrel
    by_cases hlt : j < l.length
    · obtain ⟨c, hc⟩ : ∃ c, l[j]? = some c := ⟨_, List.getElem?_eq_getElem hlt⟩
      have h1 : (j : Int) < (S l).size := by show (j : Int) < (l.length : Nat); omega
      have h0 : (0 : Int) ≤ j := by omega
      obtain ⟨x1, x2⟩ := s_at (S l) j c (by rw [S_toList]; exact hc)
      have ST : dots (l.take (j + 1)) = dots (l.take j) + if c = 46 then 1 else 0 := by
        rw [List.take_add_one, hc]; simp [dots, List.countP_append, List.countP_cons]
      by_cases c1 : c = 46
      · subst c1
        have hk2 : k < ps.length := by rw [HK.out]; exact Nat.lt_of_lt_of_le (dots_lt l j hc) HD.out.1
        obtain ⟨ad, rfl, ca⟩ := RD.out (by omega)
        have c1 := ca k _ (strs_get ps k hk2)
        have F2 := Lib.hid (fill_step_dot l ps j k hc hk2)
        have PB := Lib.hid (HD.out.2 ps[k] (List.getElem_mem hk2))
        have t1 : (((46 : UInt8).toNat : Int) == 46) = true := rfl
        have k1 : (k : Int) < ps.length := by omega
        have k0 : (0 : Int) ≤ k := by omega
        have HK2 : Hid (k + 1 = dots (l.take (j + 1))) := by show _ = _; rw [ST, ← HK.out]; rfl
        generalize ps[k] = p at *
        have g4 : (9223372036854775807 < (S acc).size + p.size) = False := by rw [S_size]; have := HA.out; have := PB.out; simp; omega
        have EA : Hid (S acc ++ p = S (acc ++ p.toList)) := by show _ = _; rw [← S_append, ← S_of]
        have LA : Hid ((acc ++ p.toList).length ≤ (j + 1) * 100001) := by
          have := HA.out; have := PB.out
          show _ ≤ _
          rw [List.length_append, s_len]; omega
        have FF : Hid (fillP l ps = (acc ++ p.toList) ++ fillP (l.drop (j + 1)) (ps.drop (k + 1))) := by show _ = _; rw [HF.out, F2.out, List.append_assoc]
        clear hc ca ST F2 PB
        go_wp2_with fail
        rw [EA.out]
        exact ⟨⟨j + 1, k + 1, acc ++ p.toList, by omega, by omega, by go_num, by go_num, rfl, HK2.out, LA.out, FF.out⟩, by simp [intOf]; omega⟩
      · have t1 : ((c.toNat : Int) == 46) = false := byte_ne c1
        have F2 := Lib.hid (fill_step_other l ps j k c hc c1)
        have OB := one_byte l j c hc
        have HK2 : Hid (k = dots (l.take (j + 1))) := by show _ = _; rw [ST, ← HK.out, if_neg c1]; rfl
        have g4 : (9223372036854775807 < (S acc).size + 1) = False := by rw [S_size]; have := HA.out; simp; omega
        have g5 : (9223372036854775807 < (S acc).size + (S [c]).size) = False := by rw [S_size, S_size]; have := HA.out; simp; omega
        have EA : Hid (S acc ++ S [c] = S (acc ++ [c])) := S_append _ _
        have LA : Hid ((acc ++ [c]).length ≤ (j + 1) * 100001) := by
          have := HA.out
          show _ ≤ _
          rw [List.length_append]; simp; omega
        have FF : Hid (fillP l ps = (acc ++ [c]) ++ fillP (l.drop (j + 1)) (ps.drop k)) := by show _ = _; rw [HF.out, F2.out, List.append_assoc]; rfl
        clear hc ST F2 c1
        go_wp2_with fail
        rw [EA.out]
        exact ⟨⟨j + 1, k, acc ++ [c], by omega, by omega, by go_num, by go_num, rfl, HK2.out, LA.out, FF.out⟩, by simp [intOf]; omega⟩
    · have h1 : ((S l).size : Int) ≤ j := by show ((l.length : Nat) : Int) ≤ j; omega
      have E : Hid (fillP l ps = acc) := by show _ = _; rw [HF.out, List.drop_eq_nil_of_le (by omega)]; simp [fillP]
      go_wp2_with fail
      go_ret
      exact ⟨by rw [E.out]; rfl, rfl⟩

end Go.Proofs.YtpmmajfdcicjiaaGreat.N
/- Products of texts, as the reference has them. -/
namespace Go.Proofs.YtpmmajfdcicjiaaGreat.N
open Go.RowKit
set_option linter.unusedVariables false
set_option linter.unusedSimpArgs false

theorem join_depth : ∀ a b : Tr, (join a b).depth ≤ max a.depth b.depth
  | .leaf, b => by simp only [join]; omega
  | .node l r, .leaf => by simp only [join]; omega
  | .node l r, .node a b => by have := join_depth l a; have := join_depth r b; simp only [join, Tr.depth]; omega
set_option maxHeartbeats 3200000 in
set_option maxRecDepth 100000 in
theorem trJoin_calls (A : Tr) : ∀ (B : Tr) (w : World), A.depth ≤ 60 → A.carets ≤ 1000 → B.depth ≤ 60 → B.carets ≤ 1000 →
    Calls Tryz.prog 151 #[.string (tx A), .string (tx B)] w fun e w' => e = .returned (.string (tx (join A B))) ∧ ∃ n, w' = w.drewN n := by
  induction A with
  | leaf =>
    intro B w _ _ _ _
    have C1 := Lib.hid (fun W => trLeaf_leaf W)
    rw [show join .leaf B = B from rfl]
    generalize tx .leaf = z at *
    generalize tx B = b at *
    go_enter Tryz.func151, Tryz.ntmps151
    go_wp2_with fail
    refine (C1.out _).mono ?_
    rintro e w1 ⟨rfl, rfl⟩
    go_wp2_with fail
    go_ret
    exact ⟨rfl, 0, rfl⟩
  | node l r ihl ihr =>
    intro B w hd hc hd2 hc2
    have C1 := Lib.hid (fun W => trLeaf_node l r W)
    cases B with
    | leaf =>
      have C2 := Lib.hid (fun W => trLeaf_leaf W)
      rw [show join (.node l r) .leaf = .node l r from rfl]
      generalize tx .leaf = z at *
      generalize tx (.node l r) = a at *
      clear ihl ihr hd hc hd2 hc2
      go_enter Tryz.func151, Tryz.ntmps151
      go_wp2_with fail
      refine (C1.out _).mono ?_
      rintro e w1 ⟨rfl, rfl⟩
      go_wp2_with fail
      refine (C2.out _).mono ?_
      rintro e w1 ⟨rfl, rfl⟩
      go_wp2_with fail
      go_ret
      exact ⟨rfl, 0, rfl⟩
    | node x y =>
      have C2 := Lib.hid (fun W => trLeaf_node x y W)
      have C3 := Lib.hid (fun W => trSides_calls l r hd (by omega) W)
      have C4 := Lib.hid (fun W => trSides_calls x y hd2 (by omega) W)
      simp only [Tr.depth, Tr.carets] at hd hc hd2 hc2
      have C5 := Lib.hid (fun W => ihl x W (by omega) (by omega) (by omega) (by omega))
      have C6 := Lib.hid (fun W => ihr y W (by omega) (by omega) (by omega) (by omega))
      have j1 := join_carets l x
      have j2 := join_carets r y
      have C7 := Lib.hid (fun W => trOf_tree (join l x) (join r y) (by omega) (by omega) W)
      rw [show join (.node l r) (.node x y) = .node (join l x) (join r y) from rfl]
      generalize tx (.node (join l x) (join r y)) = q at *
      generalize tx (join l x) = jl at *
      generalize tx (join r y) = jr at *
      generalize tx (.node l r) = a at *
      generalize tx (.node x y) = b at *
      generalize tx l = sl at *
      generalize tx r = sr at *
      generalize tx x = sx at *
      generalize tx y = sy at *
      clear ihl ihr hd hc hd2 hc2 j1 j2
      go_enter Tryz.func151, Tryz.ntmps151
      go_wp2_with fail
      refine (C1.out _).mono ?_
      rintro e w1 ⟨rfl, rfl⟩
      go_wp2_with fail
      refine (C2.out _).mono ?_
      rintro e w1 ⟨rfl, rfl⟩
      go_wp2_with fail
      refine (C3.out _).mono ?_
      rintro e w1 ⟨rfl, n1, rfl⟩
      go_wp2_with fail
      refine (C4.out _).mono ?_
      rintro e w1 ⟨rfl, n2, rfl⟩
      go_wp2_with fail
      refine (C5.out _).mono ?_
      rintro e w1 ⟨rfl, n3, rfl⟩
      go_wp2_with fail
      refine (C6.out _).mono ?_
      rintro e w1 ⟨rfl, n4, rfl⟩
      go_wp2_with fail
      refine (C7.out _).mono ?_
      rintro e w1 ⟨rfl, rfl⟩
      go_wp2_with fail
      go_ret
      exact ⟨rfl, _, rfl⟩

set_option maxHeartbeats 3200000 in
set_option maxRecDepth 100000 in
theorem prParts_calls (T : Tr) : ∀ (W0 : Tr) (w : World), Part T W0 → T.depth ≤ 60 → T.carets ≤ 1000 → W0.depth ≤ 60 → W0.carets ≤ 2000 →
    Calls Tryz.prog 153 #[.string (tx T), .string (tx W0)] w fun e w' => ∃ v, e = .returned v ∧ Own w' w.heap.size 9 v (strs ((partsT T W0).map tx)) ∧ Ext w w' := by
  induction T with
  | leaf =>
    intro W0 w _ _ _ _ _
    have C1 := Lib.hid (fun W => trLeaf_leaf W)
    rw [show (partsT .leaf W0).map tx = [tx W0] from rfl]
    generalize tx .leaf = z at *
    generalize tx W0 = b at *
    have OL : Hid (Own (w.alloc (.cells #[.string b] 9)) w.heap.size 9 (.slice (some ⟨w.heap.size, 0, none⟩) 1 1) (strs [b])) := Own.lit w w.heap.size 9 #[.string b] (Nat.le_refl _) (by show 1 ≤ maxLen; decide)
    have XL := Lib.hid ((Ext.refl w).alloc (.cells #[.string b] 9))
    go_enter Tryz.func153, Tryz.ntmps153
    go_wp2_with fail
    refine (C1.out _).mono ?_
    rintro e w1 ⟨rfl, rfl⟩
    go_wp2_with fail
    go_ret
    exact ⟨_, rfl, OL.out, XL.out⟩
  | node l r ihl ihr =>
    intro W0 w hP hd hc hd2 hc2
    cases W0 with
    | leaf => exact hP.elim
    | node x y =>
      have C1 := Lib.hid (fun W => trLeaf_node l r W)
      have C3 := Lib.hid (fun W => trSides_calls l r hd (by omega) W)
      have C4 := Lib.hid (fun W => trSides_calls x y hd2 (by omega) W)
      simp only [Tr.depth, Tr.carets] at hd hc hd2 hc2
      have C5 := Lib.hid (fun W => ihl x W hP.1 (by omega) (by omega) (by omega) (by omega))
      have C6 := Lib.hid (fun W => ihr y W hP.2 (by omega) (by omega) (by omega) (by omega))
      have l1 := parts_length l x hP.1
      have l2 := parts_length r y hP.2
      rw [show (partsT (.node l r) (.node x y)).map tx = (partsT l x).map tx ++ (partsT r y).map tx from List.map_append, ← strs_append]
      have LL : Hid (((strs ((partsT l x).map tx)).length + (strs ((partsT r y).map tx)).length) * 16 ≤ 140737488355328) := by show _ ≤ _; rw [strs_length, strs_length, List.length_map, List.length_map]; omega
      generalize (partsT l x).map tx = L1 at *
      generalize (partsT r y).map tx = L2 at *
      generalize tx (.node l r) = a at *
      generalize tx (.node x y) = b at *
      generalize tx l = sl at *
      generalize tx r = sr at *
      generalize tx x = sx at *
      generalize tx y = sy at *
      clear ihl ihr hd hc hd2 hc2 l1 l2 hP
      go_enter Tryz.func153, Tryz.ntmps153
      go_wp2_with fail
      refine (C1.out _).mono ?_
      rintro e w1 ⟨rfl, rfl⟩
      go_wp2_with fail
      refine (C3.out _).mono ?_
      rintro e w1 ⟨rfl, n1, rfl⟩
      go_wp2_with fail
      refine (C4.out _).mono ?_
      rintro e w1 ⟨rfl, n2, rfl⟩
      have X2 := Lib.hid (((Ext.refl w).drewN n1).drewN n2)
      generalize (w.drewN n1).drewN n2 = w2 at *
      go_wp2_with fail
      refine (C5.out _).mono ?_
      rintro e w3 ⟨v3, rfl, o3, x3⟩
      have X3 := Lib.hid (X2.out.trans x3)
      have O3 := Lib.hid (o3.mono X2.out.size)
      clear o3 x3
      go_wp2_with fail
      refine (C6.out _).mono ?_
      rintro e w4 ⟨v4, rfl, o4, x4⟩
      have X4 := Lib.hid (X3.out.trans x4)
      have O4 := o4.reads
      have O3 := O3.out.ext x4
      have B1 := Lib.hid X4.out.size
      clear o4 x4
      go_wp2_with (at_builtin; refine wpList_app rfl (.tmp 25) (.tmp 28) 138 rfl w.heap.size 9 (.string ⟨#[]⟩) 16 Tryz.underlying138 infoStr rfl (by omega) _ _ _ (strs L2) rfl rfl O3 O4 (strs_one _) LL.out B1.out ?_; intro v5 w5 o5 g5 _)
      have X5 := Lib.hid (X4.out.grown g5 O3.lo)
      have O5 := Lib.hid o5
      clear o5 g5 O3 O4
      go_wp2_with fail
      go_ret
      exact ⟨_, rfl, O5.out, X5.out⟩

set_option maxHeartbeats 3200000 in
set_option maxRecDepth 100000 in
theorem prTimes_calls (A B C D : Tr) (hAB : A.carets = B.carets) (hCD : C.carets = D.carets) (hB : B.carets ≤ 60) (hC : C.carets ≤ 60) (w : World) :
    Calls Tryz.prog 124 #[.agg #[.string (tx A), .string (tx B)], .agg #[.string (tx C), .string (tx D)]] w fun e w' => e = .returned (.agg #[.string (tx (mul (A, B) (C, D)).1), .string (tx (mul (A, B) (C, D)).2)]) ∧ Ext w w' := by
  obtain ⟨X0, c0, c1, c2, c3, t0⟩ := boxQQ_facts w (.string (tx A)) (.string (tx B)) (.string (tx C)) (.string (tx D)) (.string ⟨#[]⟩) (.string ⟨#[]⟩) 25 25
  have dB := B.depth_le
  have dC := C.depth_le
  have jc := join_carets B C
  have jd := join_depth B C
  have pl := part_join_l B C
  have pr := part_join_r B C
  have pll := parts_length B _ pl
  have prl := parts_length C _ pr
  have C1 := Lib.hid (fun W => trJoin_calls B C W (by omega) (by omega) (by omega) (by omega))
  have C2 := Lib.hid (fun W => prParts_calls B (join B C) W pl (by omega) (by omega) (by omega) (by omega))
  have C3 := Lib.hid (fun W => prParts_calls C (join B C) W pr (by omega) (by omega) (by omega) (by omega))
  have C4 := Lib.hid (fun v W h => prFill_calls A.txt ((partsT B (join B C)).map tx) (by have := A.txt_length; omega) (by rw [List.length_map]; omega) (by rw [dots_txt, List.length_map]; omega) (by intro p hp; obtain ⟨t, ht, rfl⟩ := List.mem_map.1 hp; have := parts_le pl ht; rw [tx_size]; omega) v W h)
  have C5 := Lib.hid (fun v W h => prFill_calls D.txt ((partsT C (join B C)).map tx) (by have := D.txt_length; omega) (by rw [List.length_map]; omega) (by rw [dots_txt, List.length_map]; omega) (by intro p hp; obtain ⟨t, ht, rfl⟩ := List.mem_map.1 hp; have := parts_le pr ht; rw [tx_size]; omega) v W h)
  rw [fillP_txt A _ (by omega)] at C4
  rw [fillP_txt D _ (by omega)] at C5
  obtain ⟨mc1, mc2⟩ := mul0_carets (p := (A, B)) (q := (C, D)) hAB hCD
  have C6 := Lib.hid (fun W => prReduce_calls (mul0 (A, B) (C, D)).1 (mul0 (A, B) (C, D)).2 (by rw [mc1]; simp only; omega) (by rw [mc2]; simp only; omega) W)
  change Hid (∀ (v : Value) (W : World), Reads W v _ → Calls _ _ #[.string (tx A), v] W (fun e w' => e = .returned (.string (tx (mul0 (A, B) (C, D)).1)) ∧ W = w')) at C4
  change Hid (∀ (v : Value) (W : World), Reads W v _ → Calls _ _ #[.string (tx D), v] W (fun e w' => e = .returned (.string (tx (mul0 (A, B) (C, D)).2)) ∧ W = w')) at C5
  rw [show mul (A, B) (C, D) = red ((mul0 (A, B) (C, D)).1, (mul0 (A, B) (C, D)).2) from rfl]
  generalize tx (red ((mul0 (A, B) (C, D)).1, (mul0 (A, B) (C, D)).2)).1 = z1 at *
  generalize tx (red ((mul0 (A, B) (C, D)).1, (mul0 (A, B) (C, D)).2)).2 = z2 at *
  generalize tx (mul0 (A, B) (C, D)).1 = y1 at *
  generalize tx (mul0 (A, B) (C, D)).2 = y2 at *
  generalize (partsT B (join B C)).map tx = L1 at *
  generalize (partsT C (join B C)).map tx = L2 at *
  generalize tx (join B C) = j at *
  generalize tx A = a at *
  generalize tx B = b at *
  generalize tx C = c at *
  generalize tx D = d at *
  have X0 := Lib.hid X0
  clear hAB hCD hB hC mc1 mc2 jc jd pl pr pll prl dB dC
  go_enter Tryz.func124, Tryz.ntmps124
  go_wp2_with fail
  generalize ((w.alloc (.cells #[.string a, .string b] 25)).alloc (.cells #[.string c, .string d] 25)).alloc (.cells #[.string ⟨#[]⟩, .string ⟨#[]⟩] 25) = W at *
  refine (C1.out _).mono ?_
  rintro e w1 ⟨rfl, n1, rfl⟩
  have x1 : Ext W (W.drewN n1) := (Ext.refl W).drewN n1
  have SX := Lib.hid (quad_ext ⟨c0, c1, c2, c3, X0.out⟩ x1)
  have T1 := t0.ext x1
  have c0 := x1.cell c0
  have c1 := x1.cell c1
  have c2 := x1.cell c2
  have c3 := x1.cell c3
  generalize W.drewN n1 = W1 at *
  have n1 : Hid (w.heap.size ≠ w.heap.size + 1 + 1) := by show _ ≠ _; omega
  have n2 : Hid (w.heap.size + 1 ≠ w.heap.size + 1 + 1) := by show _ ≠ _; omega
  have n3 : Hid (w.heap.size ≤ w.heap.size + 1 + 1) := by show _ ≤ _; omega
  clear x1 t0
  go_wp2_with fail
  go_region_held3 (fun w' => w'.cell? ⟨w.heap.size, 0, none⟩ = some (.string a) ∧ w'.cell? ⟨w.heap.size, 1, none⟩ = some (.string b) ∧ w'.cell? ⟨w.heap.size + 1, 0, none⟩ = some (.string c) ∧ w'.cell? ⟨w.heap.size + 1, 1, none⟩ = some (.string d) ∧ Ext w w')
    (first | with_reducible exact quad_ext SX.out (Ext.refl _).drew | with_reducible exact quad_ext SX.out x6 | with_reducible exact quad_ext SX.out x4 | with_reducible exact quad_ext SX.out x2 | with_reducible exact quad_far _ _ (quad_ext SX.out x6) n1.out n2.out n3.out | fail)
    (first
      | (go_at_call_of 153 (Value.string b); refine (C2.out _).mono ?_; rintro e w2 ⟨v2, rfl, o2, hx2⟩; have x2 := (Ext.refl W1).drew.trans hx2)
      | (go_at_call_of 152 (Value.string a); refine (C4.out _ _ o2.reads).mono ?_; rintro e w3 ⟨rfl, rfl⟩)
      | (go_at_call_of 153 (Value.string c); refine (C3.out _).mono ?_; rintro e w4 ⟨v4, rfl, o4, hx4⟩; have x4 := x2.trans hx4)
      | (go_at_call_of 152 (Value.string d); refine (C5.out _ _ o4.reads).mono ?_; rintro e w5 ⟨rfl, rfl⟩)
      | (go_at_call 46; refine (C6.out _).mono ?_; rintro e w6 ⟨rfl, hx6⟩; have x6 := x4.trans hx6; obtain ⟨u, v, k0, k1, f0, f1⟩ := (T1.ext x6).facts)
      | fail)
  have T3 := T1.ext x6
  have HH := set2_heap T3 (.string z1) (.string z2)
  have XX := (SX.out.2.2.2.2.trans x6).set2 (g := w.heap.size + 1 + 1) (by omega) (.string z1) (.string z2)
  change Exit.then _ _ _ _ (N.set2 _ (w.heap.size + 1 + 1) (.string z1) (.string z2))
  obtain ⟨hc0, hc1⟩ := cells_of HH
  generalize N.set2 _ (w.heap.size + 1 + 1) (.string z1) (.string z2) = W3 at *
  go_wp2_with fail
  exact bodyPost_ret (v := .agg #[.string z1, .string z2]) (by simp [results, Tryz.results124, go_sem, hc0, hc1]) rfl ⟨rfl, XX⟩

set_option maxHeartbeats 3200000 in
theorem prInverse_calls (s t : ByteArray) (w : World) :
    Calls Tryz.prog 125 #[.agg #[.string s, .string t]] w fun e w' => e = .returned (.agg #[.string t, .string s]) ∧ Ext w w' := by
  have X2 := Lib.hid (((Ext.refl w).alloc (.cells #[.string s, .string t] 25)).alloc (.cells #[.string t, .string s] 25))
  have HH := heap_alloc_new (w.alloc (.cells #[.string s, .string t] 25)) (.cells #[.string t, .string s] 25)
  rw [show (w.alloc (.cells #[.string s, .string t] 25)).heap.size = w.heap.size + 1 by simp] at HH
  obtain ⟨hc0, hc1⟩ := cells_of HH
  go_enter Tryz.func125, Tryz.ntmps125
  go_wp2_with fail
  exact bodyPost_ret (v := .agg #[.string t, .string s]) (by simp [results, Tryz.results125, go_sem, hc0, hc1]) rfl ⟨rfl, X2.out⟩

set_option maxHeartbeats 3200000 in
set_option maxRecDepth 100000 in
theorem cjBy_calls (A B C D : Tr) (hAB : A.carets = B.carets) (hCD : C.carets = D.carets) (hs : C.carets + B.carets ≤ 60) (w : World) :
    Calls Tryz.prog 73 #[.agg #[.string (tx A), .string (tx B)], .agg #[.string (tx C), .string (tx D)]] w fun e w' => e = .returned (.agg #[.string (tx (conj (A, B) (C, D)).1), .string (tx (conj (A, B) (C, D)).2)]) ∧ Ext w w' := by
  obtain ⟨X0, c0, c1, c2, c3, t0⟩ := boxQQ_facts w (.string (tx A)) (.string (tx B)) (.string (tx C)) (.string (tx D)) (.string ⟨#[]⟩) (.string ⟨#[]⟩) 25 25
  obtain ⟨m1, m2⟩ := mul_carets (p := (D, C)) (q := (A, B)) hCD.symm hAB
  simp only at m2
  have C1 := Lib.hid (fun W => prInverse_calls (tx C) (tx D) W)
  have C2 := Lib.hid (fun W => prTimes_calls D C A B hCD.symm hAB (by omega) (by omega) W)
  have C3 := Lib.hid (fun W => prTimes_calls (mul (D, C) (A, B)).1 (mul (D, C) (A, B)).2 C D m1 hCD (by omega) (by omega) W)
  rw [show conj (A, B) (C, D) = mul ((mul (D, C) (A, B)).1, (mul (D, C) (A, B)).2) (C, D) from rfl]
  generalize tx (mul ((mul (D, C) (A, B)).1, (mul (D, C) (A, B)).2) (C, D)).1 = z1 at *
  generalize tx (mul ((mul (D, C) (A, B)).1, (mul (D, C) (A, B)).2) (C, D)).2 = z2 at *
  generalize tx (mul (D, C) (A, B)).1 = y1 at *
  generalize tx (mul (D, C) (A, B)).2 = y2 at *
  generalize tx A = a at *
  generalize tx B = b at *
  generalize tx C = c at *
  generalize tx D = d at *
  have X0 := Lib.hid X0
  clear hAB hCD hs m1 m2
  go_enter Tryz.func73, Tryz.ntmps73
  go_wp2_with fail
  generalize ((w.alloc (.cells #[.string a, .string b] 25)).alloc (.cells #[.string c, .string d] 25)).alloc (.cells #[.string ⟨#[]⟩, .string ⟨#[]⟩] 25) = W at *
  have SX := Lib.hid (And.intro c0 (And.intro c1 (And.intro c2 (And.intro c3 X0.out))))
  have n1 : Hid (w.heap.size ≠ w.heap.size + 1 + 1) := by show _ ≠ _; omega
  have n2 : Hid (w.heap.size + 1 ≠ w.heap.size + 1 + 1) := by show _ ≠ _; omega
  have n3 : Hid (w.heap.size ≤ w.heap.size + 1 + 1) := by show _ ≤ _; omega
  go_region_held3 (fun w' => w'.cell? ⟨w.heap.size, 0, none⟩ = some (.string a) ∧ w'.cell? ⟨w.heap.size, 1, none⟩ = some (.string b) ∧ w'.cell? ⟨w.heap.size + 1, 0, none⟩ = some (.string c) ∧ w'.cell? ⟨w.heap.size + 1, 1, none⟩ = some (.string d) ∧ Ext w w')
    (first | with_reducible exact quad_ext SX.out (Ext.refl _).drew | with_reducible exact quad_ext SX.out x3 | with_reducible exact quad_ext SX.out x2 | with_reducible exact quad_ext SX.out x1 | with_reducible exact quad_far _ _ (quad_ext SX.out x3) n1.out n2.out n3.out | fail)
    (first
      | (go_at_call 125; refine (C1.out _).mono ?_; rintro e w1 ⟨rfl, hx1⟩; have x1 := (Ext.refl W).drew.trans hx1)
      | (go_at_call_of 124 (Value.agg #[.string d, .string c]); refine (C2.out _).mono ?_; rintro e w2 ⟨rfl, hx2⟩; have x2 := x1.trans hx2)
      | (go_at_call 124; refine (C3.out _).mono ?_; rintro e w3 ⟨rfl, hx3⟩; have x3 := x2.trans hx3; obtain ⟨u, v, k0, k1, f0, f1⟩ := (t0.ext x3).facts)
      | fail)
  have T3 := t0.ext x3
  have HH := set2_heap T3 (.string z1) (.string z2)
  have XX := (X0.out.trans x3).set2 (g := w.heap.size + 1 + 1) (by omega) (.string z1) (.string z2)
  change Exit.then _ _ _ _ (N.set2 _ (w.heap.size + 1 + 1) (.string z1) (.string z2))
  obtain ⟨hc0, hc1⟩ := cells_of HH
  generalize N.set2 _ (w.heap.size + 1 + 1) (.string z1) (.string z2) = W3 at *
  go_wp2_with fail
  exact bodyPost_ret (v := .agg #[.string z1, .string z2]) (by simp [results, Tryz.results73, go_sem, hc0, hc1]) rfl ⟨rfl, XX⟩
end Go.Proofs.YtpmmajfdcicjiaaGreat.N
