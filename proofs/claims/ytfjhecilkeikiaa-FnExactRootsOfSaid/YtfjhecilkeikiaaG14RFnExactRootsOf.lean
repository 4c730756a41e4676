import Derived.Test.YtfjhecilkeikiaaG1RFnExactRootsOf
import Derived.Test.YtfjhecilkeikiaaG2RFnExactRootsOf
import Derived.Test.YtfjhecilkeikiaaProg
import Derived.Test.YtfjhecilkeikiaaG5RFnExactRootsOf
import Derived.Test.YtfjhecilkeikiaaG3RFnExactRootsOf
import Derived.Test.YtfjhecilkeikiaaG8RFnExactRootsOf
import Derived.Test.YtfjhecilkeikiaaG9RFnExactRootsOf
import Derived.Test.YtfjhecilkeikiaaG10RFnExactRootsOf
import Derived.Test.YtfjhecilkeikiaaG4RFnExactRootsOf
import Derived.Test.YtfjhecilkeikiaaG11RFnExactRootsOf
import Derived.Test.YtfjhecilkeikiaaG6RFnExactRootsOf
import Derived.Test.YtfjhecilkeikiaaG12RFnExactRootsOf
import Derived.Test.YtfjhecilkeikiaaG13RFnExactRootsOf
import Derived.Deep.LoopGhost
import Derived.Deep.RegionHeld3
import Derived.Deep.QuietTactic
import Derived.StillTailTactics
/- Products of texts, as the reference has them. -/
namespace Go.Proofs.Ytfjhecilkeikiaa.N
open Go.RowKit
set_option linter.unusedVariables false
set_option linter.unusedSimpArgs false

theorem join_depth : ∀ a b : Tr, (join a b).depth ≤ max a.depth b.depth
  | .leaf, b => by simp only [join]; omega
  | .node l r, .leaf => by simp only [join]; omega
  | .node l r, .node a b => by have := join_depth l a; have := join_depth r b; simp only [join, Tr.depth]; omega
set_option maxHeartbeats 3200000 in
set_option maxRecDepth 100000 in
theorem trJoin_calls (A : Tr) : ∀ (B : Tr) (w : World), A.depth ≤ 60 → A.carets ≤ 1000 → B.depth ≤ 60 → B.carets ≤ 1000 →
    Calls Try.prog 76 #[.string (tx A), .string (tx B)] w fun e w' => e = .returned (.string (tx (join A B))) ∧ ∃ n, w' = w.drewN n := by
  induction A with
  | leaf =>
    intro B w _ _ _ _
    have C1 := Lib.hid (fun W => trLeaf_leaf W)
    rw [show join .leaf B = B from rfl]
    generalize tx .leaf = z at *
    generalize tx B = b at *
    go_enter Try.func76, Try.ntmps76
    go_wp2_with fail
    refine (C1.out _).mono ?_
    rintro e w1 ⟨rfl, rfl⟩
    go_wp2_with fail
    go_ret
    exact ⟨rfl, 0, rfl⟩
  | node l r ihl ihr =>
    intro B w hd hc hd2 hc2
    have C1 := Lib.hid (fun W => trLeaf_node l r W)
    cases B with
    | leaf =>
      have C2 := Lib.hid (fun W => trLeaf_leaf W)
      rw [show join (.node l r) .leaf = .node l r from rfl]
      generalize tx .leaf = z at *
      generalize tx (.node l r) = a at *
      clear ihl ihr hd hc hd2 hc2
      go_enter Try.func76, Try.ntmps76
      go_wp2_with fail
      refine (C1.out _).mono ?_
      rintro e w1 ⟨rfl, rfl⟩
      go_wp2_with fail
      refine (C2.out _).mono ?_
      rintro e w1 ⟨rfl, rfl⟩
      go_wp2_with fail
      go_ret
      exact ⟨rfl, 0, rfl⟩
    | node x y =>
      have C2 := Lib.hid (fun W => trLeaf_node x y W)
      have C3 := Lib.hid (fun W => trSides_calls l r hd (by omega) W)
      have C4 := Lib.hid (fun W => trSides_calls x y hd2 (by omega) W)
      simp only [Tr.depth, Tr.carets] at hd hc hd2 hc2
      have C5 := Lib.hid (fun W => ihl x W (by omega) (by omega) (by omega) (by omega))
      have C6 := Lib.hid (fun W => ihr y W (by omega) (by omega) (by omega) (by omega))
      have j1 := join_carets l x
      have j2 := join_carets r y
      have C7 := Lib.hid (fun W => trOf_tree (join l x) (join r y) (by omega) (by omega) W)
      rw [show join (.node l r) (.node x y) = .node (join l x) (join r y) from rfl]
      generalize tx (.node (join l x) (join r y)) = q at *
      generalize tx (join l x) = jl at *
      generalize tx (join r y) = jr at *
      generalize tx (.node l r) = a at *
      generalize tx (.node x y) = b at *
      generalize tx l = sl at *
      generalize tx r = sr at *
      generalize tx x = sx at *
      generalize tx y = sy at *
      clear ihl ihr hd hc hd2 hc2 j1 j2
      go_enter Try.func76, Try.ntmps76
      go_wp2_with fail
      refine (C1.out _).mono ?_
      rintro e w1 ⟨rfl, rfl⟩
      go_wp2_with fail
      refine (C2.out _).mono ?_
      rintro e w1 ⟨rfl, rfl⟩
      go_wp2_with fail
      refine (C3.out _).mono ?_
      rintro e w1 ⟨rfl, n1, rfl⟩
      go_wp2_with fail
      refine (C4.out _).mono ?_
      rintro e w1 ⟨rfl, n2, rfl⟩
      go_wp2_with fail
      refine (C5.out _).mono ?_
      rintro e w1 ⟨rfl, n3, rfl⟩
      go_wp2_with fail
      refine (C6.out _).mono ?_
      rintro e w1 ⟨rfl, n4, rfl⟩
      go_wp2_with fail
      refine (C7.out _).mono ?_
      rintro e w1 ⟨rfl, rfl⟩
      go_wp2_with fail
      go_ret
      exact ⟨rfl, _, rfl⟩

set_option maxHeartbeats 3200000 in
set_option maxRecDepth 100000 in
theorem prParts_calls (T : Tr) : ∀ (W0 : Tr) (w : World), Part T W0 → T.depth ≤ 60 → T.carets ≤ 1000 → W0.depth ≤ 60 → W0.carets ≤ 2000 →
    Calls Try.prog 78 #[.string (tx T), .string (tx W0)] w fun e w' => ∃ v, e = .returned v ∧ Own w' w.heap.size 9 v (strs ((partsT T W0).map tx)) ∧ Ext w w' := by
  induction T with
  | leaf =>
    intro W0 w _ _ _ _ _
    have C1 := Lib.hid (fun W => trLeaf_leaf W)
    rw [show (partsT .leaf W0).map tx = [tx W0] from rfl]
    generalize tx .leaf = z at *
    generalize tx W0 = b at *
    have OL : Hid (Own (w.alloc (.cells #[.string b] 9)) w.heap.size 9 (.slice (some ⟨w.heap.size, 0, none⟩) 1 1) (strs [b])) := Own.lit w w.heap.size 9 #[.string b] (Nat.le_refl _) (by show 1 ≤ maxLen; decide)
    have XL := Lib.hid ((Ext.refl w).alloc (.cells #[.string b] 9))
    go_enter Try.func78, Try.ntmps78
    go_wp2_with fail
    refine (C1.out _).mono ?_
    rintro e w1 ⟨rfl, rfl⟩
    go_wp2_with fail
    go_ret
    exact ⟨_, rfl, OL.out, XL.out⟩
  | node l r ihl ihr =>
    intro W0 w hP hd hc hd2 hc2
    cases W0 with
    | leaf => exact hP.elim
    | node x y =>
      have C1 := Lib.hid (fun W => trLeaf_node l r W)
      have C3 := Lib.hid (fun W => trSides_calls l r hd (by omega) W)
      have C4 := Lib.hid (fun W => trSides_calls x y hd2 (by omega) W)
      simp only [Tr.depth, Tr.carets] at hd hc hd2 hc2
      have C5 := Lib.hid (fun W => ihl x W hP.1 (by omega) (by omega) (by omega) (by omega))
      have C6 := Lib.hid (fun W => ihr y W hP.2 (by omega) (by omega) (by omega) (by omega))
      have l1 := parts_length l x hP.1
      have l2 := parts_length r y hP.2
      rw [show (partsT (.node l r) (.node x y)).map tx = (partsT l x).map tx ++ (partsT r y).map tx from List.map_append, ← strs_append]
      have LL : Hid (((strs ((partsT l x).map tx)).length + (strs ((partsT r y).map tx)).length) * 16 ≤ 140737488355328) := by show _ ≤ _; rw [strs_length, strs_length, List.length_map, List.length_map]; omega
      generalize (partsT l x).map tx = L1 at *
      generalize (partsT r y).map tx = L2 at *
      generalize tx (.node l r) = a at *
      generalize tx (.node x y) = b at *
      generalize tx l = sl at *
      generalize tx r = sr at *
      generalize tx x = sx at *
      generalize tx y = sy at *
      clear ihl ihr hd hc hd2 hc2 l1 l2 hP
      go_enter Try.func78, Try.ntmps78
      go_wp2_with fail
      refine (C1.out _).mono ?_
      rintro e w1 ⟨rfl, rfl⟩
      go_wp2_with fail
      refine (C3.out _).mono ?_
      rintro e w1 ⟨rfl, n1, rfl⟩
      go_wp2_with fail
      refine (C4.out _).mono ?_
      rintro e w1 ⟨rfl, n2, rfl⟩
      have X2 := Lib.hid (((Ext.refl w).drewN n1).drewN n2)
      generalize (w.drewN n1).drewN n2 = w2 at *
      go_wp2_with fail
      refine (C5.out _).mono ?_
      rintro e w3 ⟨v3, rfl, o3, x3⟩
      have X3 := Lib.hid (X2.out.trans x3)
      have O3 := Lib.hid (o3.mono X2.out.size)
      clear o3 x3
      go_wp2_with fail
      refine (C6.out _).mono ?_
      rintro e w4 ⟨v4, rfl, o4, x4⟩
      have X4 := Lib.hid (X3.out.trans x4)
      have O4 := o4.reads
      have O3 := O3.out.ext x4
      have B1 := Lib.hid X4.out.size
      clear o4 x4
      go_wp2_with (at_builtin; refine wpList_app rfl (.tmp 25) (.tmp 28) 53 rfl w.heap.size 9 (.string ⟨#[]⟩) 16 Try.underlying53 infoStr rfl (by omega) _ _ _ (strs L2) rfl rfl O3 O4 (strs_one _) LL.out B1.out ?_; intro v5 w5 o5 g5 _)
      have X5 := Lib.hid (X4.out.grown g5 O3.lo)
      have O5 := Lib.hid o5
      clear o5 g5 O3 O4
      go_wp2_with fail
      go_ret
      exact ⟨_, rfl, O5.out, X5.out⟩

set_option maxHeartbeats 3200000 in
set_option maxRecDepth 100000 in
theorem prTimes_calls (A B C D : Tr) (hAB : A.carets = B.carets) (hCD : C.carets = D.carets) (hB : B.carets ≤ 60) (hC : C.carets ≤ 60) (w : World) :
    Calls Try.prog 47 #[.agg #[.string (tx A), .string (tx B)], .agg #[.string (tx C), .string (tx D)]] w fun e w' => e = .returned (.agg #[.string (tx (mul (A, B) (C, D)).1), .string (tx (mul (A, B) (C, D)).2)]) ∧ Ext w w' := by
  obtain ⟨X0, c0, c1, c2, c3, t0⟩ := boxQQ_facts w (.string (tx A)) (.string (tx B)) (.string (tx C)) (.string (tx D)) (.string ⟨#[]⟩) (.string ⟨#[]⟩) 28 28
  have dB := B.depth_le
  have dC := C.depth_le
  have jc := join_carets B C
  have jd := join_depth B C
  have pl := part_join_l B C
  have pr := part_join_r B C
  have pll := parts_length B _ pl
  have prl := parts_length C _ pr
  have C1 := Lib.hid (fun W => trJoin_calls B C W (by omega) (by omega) (by omega) (by omega))
  have C2 := Lib.hid (fun W => prParts_calls B (join B C) W pl (by omega) (by omega) (by omega) (by omega))
  have C3 := Lib.hid (fun W => prParts_calls C (join B C) W pr (by omega) (by omega) (by omega) (by omega))
  have C4 := Lib.hid (fun v W h => prFill_calls A.txt ((partsT B (join B C)).map tx) (by have := A.txt_length; omega) (by rw [List.length_map]; omega) (by rw [dots_txt, List.length_map]; omega) (by intro p hp; obtain ⟨t, ht, rfl⟩ := List.mem_map.1 hp; have := parts_le pl ht; rw [tx_size]; omega) v W h)
  have C5 := Lib.hid (fun v W h => prFill_calls D.txt ((partsT C (join B C)).map tx) (by have := D.txt_length; omega) (by rw [List.length_map]; omega) (by rw [dots_txt, List.length_map]; omega) (by intro p hp; obtain ⟨t, ht, rfl⟩ := List.mem_map.1 hp; have := parts_le pr ht; rw [tx_size]; omega) v W h)
  rw [fillP_txt A _ (by omega)] at C4
  rw [fillP_txt D _ (by omega)] at C5
  obtain ⟨mc1, mc2⟩ := mul0_carets (p := (A, B)) (q := (C, D)) hAB hCD
  have C6 := Lib.hid (fun W => prReduce_calls (mul0 (A, B) (C, D)).1 (mul0 (A, B) (C, D)).2 (by rw [mc1]; simp only; omega) (by rw [mc2]; simp only; omega) W)
  change Hid (∀ (v : Value) (W : World), Reads W v _ → Calls _ _ #[.string (tx A), v] W (fun e w' => e = .returned (.string (tx (mul0 (A, B) (C, D)).1)) ∧ W = w')) at C4
  change Hid (∀ (v : Value) (W : World), Reads W v _ → Calls _ _ #[.string (tx D), v] W (fun e w' => e = .returned (.string (tx (mul0 (A, B) (C, D)).2)) ∧ W = w')) at C5
  rw [show mul (A, B) (C, D) = red ((mul0 (A, B) (C, D)).1, (mul0 (A, B) (C, D)).2) from rfl]
  generalize tx (red ((mul0 (A, B) (C, D)).1, (mul0 (A, B) (C, D)).2)).1 = z1 at *
  generalize tx (red ((mul0 (A, B) (C, D)).1, (mul0 (A, B) (C, D)).2)).2 = z2 at *
  generalize tx (mul0 (A, B) (C, D)).1 = y1 at *
  generalize tx (mul0 (A, B) (C, D)).2 = y2 at *
  generalize (partsT B (join B C)).map tx = L1 at *
  generalize (partsT C (join B C)).map tx = L2 at *
  generalize tx (join B C) = j at *
  generalize tx A = a at *
  generalize tx B = b at *
  generalize tx C = c at *
  generalize tx D = d at *
  have X0 := Lib.hid X0
  clear hAB hCD hB hC mc1 mc2 jc jd pl pr pll prl dB dC
  go_enter Try.func47, Try.ntmps47
  go_wp2_with fail
  generalize ((w.alloc (.cells #[.string a, .string b] 28)).alloc (.cells #[.string c, .string d] 28)).alloc (.cells #[.string ⟨#[]⟩, .string ⟨#[]⟩] 28) = W at *
  refine (C1.out _).mono ?_
  rintro e w1 ⟨rfl, n1, rfl⟩
  have x1 : Ext W (W.drewN n1) := (Ext.refl W).drewN n1
  have SX := Lib.hid (quad_ext ⟨c0, c1, c2, c3, X0.out⟩ x1)
  have T1 := t0.ext x1
  have c0 := x1.cell c0
  have c1 := x1.cell c1
  have c2 := x1.cell c2
  have c3 := x1.cell c3
  generalize W.drewN n1 = W1 at *
  have n1 : Hid (w.heap.size ≠ w.heap.size + 1 + 1) := by show _ ≠ _; omega
  have n2 : Hid (w.heap.size + 1 ≠ w.heap.size + 1 + 1) := by show _ ≠ _; omega
  have n3 : Hid (w.heap.size ≤ w.heap.size + 1 + 1) := by show _ ≤ _; omega
  clear x1 t0
  go_wp2_with fail
  go_region_held3 (fun w' => w'.cell? ⟨w.heap.size, 0, none⟩ = some (.string a) ∧ w'.cell? ⟨w.heap.size, 1, none⟩ = some (.string b) ∧ w'.cell? ⟨w.heap.size + 1, 0, none⟩ = some (.string c) ∧ w'.cell? ⟨w.heap.size + 1, 1, none⟩ = some (.string d) ∧ Ext w w')
    (first | with_reducible exact quad_ext SX.out (Ext.refl _).drew | with_reducible exact quad_ext SX.out x6 | with_reducible exact quad_ext SX.out x4 | with_reducible exact quad_ext SX.out x2 | with_reducible exact quad_far _ _ (quad_ext SX.out x6) n1.out n2.out n3.out | fail)
    (first
      | (go_at_call_of 78 (Value.string b); refine (C2.out _).mono ?_; rintro e w2 ⟨v2, rfl, o2, hx2⟩; have x2 := (Ext.refl W1).drew.trans hx2)
      | (go_at_call_of 77 (Value.string a); refine (C4.out _ _ o2.reads).mono ?_; rintro e w3 ⟨rfl, rfl⟩)
      | (go_at_call_of 78 (Value.string c); refine (C3.out _).mono ?_; rintro e w4 ⟨v4, rfl, o4, hx4⟩; have x4 := x2.trans hx4)
      | (go_at_call_of 77 (Value.string d); refine (C5.out _ _ o4.reads).mono ?_; rintro e w5 ⟨rfl, rfl⟩)
      | (go_at_call 51; refine (C6.out _).mono ?_; rintro e w6 ⟨rfl, hx6⟩; have x6 := x4.trans hx6; obtain ⟨u, v, k0, k1, f0, f1⟩ := (T1.ext x6).facts)
      | fail)
  have T3 := T1.ext x6
  have HH := set2_heap T3 (.string z1) (.string z2)
  have XX := (SX.out.2.2.2.2.trans x6).set2 (g := w.heap.size + 1 + 1) (by omega) (.string z1) (.string z2)
  change Exit.then _ _ _ _ (N.set2 _ (w.heap.size + 1 + 1) (.string z1) (.string z2))
  obtain ⟨hc0, hc1⟩ := cells_of HH
  generalize N.set2 _ (w.heap.size + 1 + 1) (.string z1) (.string z2) = W3 at *
  go_wp2_with fail
  exact bodyPost_ret (v := .agg #[.string z1, .string z2]) (by simp [results, Try.results47, go_sem, hc0, hc1]) rfl ⟨rfl, XX⟩

set_option maxHeartbeats 3200000 in
theorem prInverse_calls (s t : ByteArray) (w : World) :
    Calls Try.prog 97 #[.agg #[.string s, .string t]] w fun e w' => e = .returned (.agg #[.string t, .string s]) ∧ Ext w w' := by
  have X2 := Lib.hid (((Ext.refl w).alloc (.cells #[.string s, .string t] 28)).alloc (.cells #[.string t, .string s] 28))
  have HH := heap_alloc_new (w.alloc (.cells #[.string s, .string t] 28)) (.cells #[.string t, .string s] 28)
  rw [show (w.alloc (.cells #[.string s, .string t] 28)).heap.size = w.heap.size + 1 by simp] at HH
  obtain ⟨hc0, hc1⟩ := cells_of HH
  go_enter Try.func97, Try.ntmps97
  go_wp2_with fail
  exact bodyPost_ret (v := .agg #[.string t, .string s]) (by simp [results, Try.results97, go_sem, hc0, hc1]) rfl ⟨rfl, X2.out⟩

set_option maxHeartbeats 3200000 in
set_option maxRecDepth 100000 in
theorem cjBy_calls (A B C D : Tr) (hAB : A.carets = B.carets) (hCD : C.carets = D.carets) (hs : C.carets + B.carets ≤ 60) (w : World) :
    Calls Try.prog 61 #[.agg #[.string (tx A), .string (tx B)], .agg #[.string (tx C), .string (tx D)]] w fun e w' => e = .returned (.agg #[.string (tx (conj (A, B) (C, D)).1), .string (tx (conj (A, B) (C, D)).2)]) ∧ Ext w w' := by
  obtain ⟨X0, c0, c1, c2, c3, t0⟩ := boxQQ_facts w (.string (tx A)) (.string (tx B)) (.string (tx C)) (.string (tx D)) (.string ⟨#[]⟩) (.string ⟨#[]⟩) 28 28
  obtain ⟨m1, m2⟩ := mul_carets (p := (D, C)) (q := (A, B)) hCD.symm hAB
  simp only at m2
  have C1 := Lib.hid (fun W => prInverse_calls (tx C) (tx D) W)
  have C2 := Lib.hid (fun W => prTimes_calls D C A B hCD.symm hAB (by omega) (by omega) W)
  have C3 := Lib.hid (fun W => prTimes_calls (mul (D, C) (A, B)).1 (mul (D, C) (A, B)).2 C D m1 hCD (by omega) (by omega) W)
  rw [show conj (A, B) (C, D) = mul ((mul (D, C) (A, B)).1, (mul (D, C) (A, B)).2) (C, D) from rfl]
  generalize tx (mul ((mul (D, C) (A, B)).1, (mul (D, C) (A, B)).2) (C, D)).1 = z1 at *
  generalize tx (mul ((mul (D, C) (A, B)).1, (mul (D, C) (A, B)).2) (C, D)).2 = z2 at *
  generalize tx (mul (D, C) (A, B)).1 = y1 at *
  generalize tx (mul (D, C) (A, B)).2 = y2 at *
  generalize tx A = a at *
  generalize tx B = b at *
  generalize tx C = c at *
  generalize tx D = d at *
  have X0 := Lib.hid X0
  clear hAB hCD hs m1 m2
  go_enter Try.func61, Try.ntmps61
  go_wp2_with fail
  generalize ((w.alloc (.cells #[.string a, .string b] 28)).alloc (.cells #[.string c, .string d] 28)).alloc (.cells #[.string ⟨#[]⟩, .string ⟨#[]⟩] 28) = W at *
  have SX := Lib.hid (And.intro c0 (And.intro c1 (And.intro c2 (And.intro c3 X0.out))))
  have n1 : Hid (w.heap.size ≠ w.heap.size + 1 + 1) := by show _ ≠ _; omega
  have n2 : Hid (w.heap.size + 1 ≠ w.heap.size + 1 + 1) := by show _ ≠ _; omega
  have n3 : Hid (w.heap.size ≤ w.heap.size + 1 + 1) := by show _ ≤ _; omega
  go_region_held3 (fun w' => w'.cell? ⟨w.heap.size, 0, none⟩ = some (.string a) ∧ w'.cell? ⟨w.heap.size, 1, none⟩ = some (.string b) ∧ w'.cell? ⟨w.heap.size + 1, 0, none⟩ = some (.string c) ∧ w'.cell? ⟨w.heap.size + 1, 1, none⟩ = some (.string d) ∧ Ext w w')
    (first | with_reducible exact quad_ext SX.out (Ext.refl _).drew | with_reducible exact quad_ext SX.out x3 | with_reducible exact quad_ext SX.out x2 | with_reducible exact quad_ext SX.out x1 | with_reducible exact quad_far _ _ (quad_ext SX.out x3) n1.out n2.out n3.out | fail)
    (first
      | (go_at_call 97; refine (C1.out _).mono ?_; rintro e w1 ⟨rfl, hx1⟩; have x1 := (Ext.refl W).drew.trans hx1)
      | (go_at_call_of 47 (Value.agg #[.string d, .string c]); refine (C2.out _).mono ?_; rintro e w2 ⟨rfl, hx2⟩; have x2 := x1.trans hx2)
      | (go_at_call 47; refine (C3.out _).mono ?_; rintro e w3 ⟨rfl, hx3⟩; have x3 := x2.trans hx3; obtain ⟨u, v, k0, k1, f0, f1⟩ := (t0.ext x3).facts)
      | fail)
  have T3 := t0.ext x3
  have HH := set2_heap T3 (.string z1) (.string z2)
  have XX := (X0.out.trans x3).set2 (g := w.heap.size + 1 + 1) (by omega) (.string z1) (.string z2)
  change Exit.then _ _ _ _ (N.set2 _ (w.heap.size + 1 + 1) (.string z1) (.string z2))
  obtain ⟨hc0, hc1⟩ := cells_of HH
  generalize N.set2 _ (w.heap.size + 1 + 1) (.string z1) (.string z2) = W3 at *
  go_wp2_with fail
  exact bodyPost_ret (v := .agg #[.string z1, .string z2]) (by simp [results, Try.results61, go_sem, hc0, hc1]) rfl ⟨rfl, XX⟩
end Go.Proofs.Ytfjhecilkeikiaa.N
/- Neighbours of trees, texts in order: plain Lean. -/
namespace Go.Proofs.Ytfjhecilkeikiaa.N
set_option linter.unusedVariables false
set_option linter.unusedSimpArgs false

/-- The order of texts. -/
def blt (a b : ByteArray) : Bool := Op.bytesLess a.toList b.toList
theorem bl_irrefl : ∀ l : List UInt8, Op.bytesLess l l = false
  | [] => rfl
  | a :: l => by simp [Op.bytesLess, bl_irrefl l, UInt8.lt_irrefl]
theorem bl_trans : ∀ a b c : List UInt8, Op.bytesLess a b = true → Op.bytesLess b c = true → Op.bytesLess a c = true
  | _, [], _, h, _ => by cases ‹List UInt8› <;> simp [Op.bytesLess] at h
  | _, _ :: _, [], _, h => by simp [Op.bytesLess] at h
  | [], _ :: _, _ :: _, _, _ => rfl
  | x :: a, y :: b, z :: c, h1, h2 => by
    simp only [Op.bytesLess, Bool.or_eq_true, decide_eq_true_eq, Bool.and_eq_true, beq_iff_eq] at h1 h2 ⊢
    rcases h1 with h1 | ⟨rfl, h1⟩
    · rcases h2 with h2 | ⟨rfl, h2⟩
      · exact .inl (UInt8.lt_trans h1 h2)
      · exact .inl h1
    · rcases h2 with h2 | ⟨rfl, h2⟩
      · exact .inl h2
      · exact .inr ⟨rfl, bl_trans a b c h1 h2⟩
theorem bl_total : ∀ a b : List UInt8, Op.bytesLess a b = false → Op.bytesLess b a = false → a = b
  | [], [], _, _ => rfl
  | [], _ :: _, h, _ => by simp [Op.bytesLess] at h
  | _ :: _, [], _, h => by simp [Op.bytesLess] at h
  | x :: a, y :: b, h1, h2 => by
    simp only [Op.bytesLess, Bool.or_eq_false_iff, decide_eq_false_iff_not, Bool.and_eq_false_imp, beq_iff_eq] at h1 h2
    have e : x = y := UInt8.le_antisymm (UInt8.not_lt.1 h2.1) (UInt8.not_lt.1 h1.1)
    subst e
    rw [bl_total a b (h1.2 rfl) (h2.2 rfl)]
theorem ba_ext {a b : ByteArray} (h : a.toList = b.toList) : a = b := by
  rw [S_of a, h, ← S_of b]
theorem blt_irrefl (a : ByteArray) : blt a a = false := bl_irrefl _
theorem blt_trans {a b c : ByteArray} (h1 : blt a b = true) (h2 : blt b c = true) : blt a c = true := bl_trans _ _ _ h1 h2
theorem blt_total {a b : ByteArray} (h1 : blt a b = false) (h2 : blt b a = false) : a = b := ba_ext (bl_total _ _ h1 h2)
theorem blt_ntrans {a b c : ByteArray} (h1 : blt a b = false) (h2 : blt b c = false) : blt a c = false := by
  cases h : blt a c with
  | false => rfl
  | true =>
    cases h3 : blt b a with
    | true => rw [blt_trans h3 h] at h2; cases h2
    | false => rw [blt_total h1 h3, h2] at h; cases h
/-- x laid into l in order. -/
def ins (x : ByteArray) : List ByteArray → List ByteArray
  | [] => [x]
  | y :: l => if blt y x then y :: ins x l else x :: y :: l
theorem ins_at (x : ByteArray) : ∀ (l : List ByteArray) (k : Nat), k ≤ l.length → (∀ j y, j < k → l[j]? = some y → blt y x = true) → (∀ y, l[k]? = some y → blt y x = false) → ins x l = l.take k ++ x :: l.drop k
  | [], k, hk, _, _ => by simp [ins]
  | y :: l, 0, _, _, h2 => by simp [ins, h2 y rfl]
  | y :: l, k + 1, hk, h1, h2 => by
    simp only [ins, h1 0 y (by omega) rfl, if_true, List.take_succ_cons, List.drop_succ_cons, List.cons_append]
    rw [ins_at x l k (by simpa using hk) (fun j z hj hz => h1 (j + 1) z (by omega) (by simpa using hz)) (fun z hz => h2 z (by simpa using hz))]
theorem ins_length (x : ByteArray) : ∀ l, (ins x l).length = l.length + 1
  | [] => rfl
  | y :: l => by simp only [ins]; split <;> simp [ins_length x l]
theorem ins_perm (x : ByteArray) : ∀ l, (ins x l).Perm (x :: l)
  | [] => List.Perm.refl _
  | y :: l => by
    simp only [ins]
    split
    · exact (List.Perm.cons y (ins_perm x l)).trans (List.Perm.swap x y l)
    · exact List.Perm.refl _
/-- In order: no later one is less than an earlier one. -/
def Srt (l : List ByteArray) : Prop := l.Pairwise fun a b => blt b a = false
theorem ins_srt (x : ByteArray) : ∀ l, Srt l → Srt (ins x l)
  | [], _ => List.pairwise_singleton _ _
  | y :: l, h => by
    have h' := List.pairwise_cons.1 h
    simp only [ins]
    split
    · rename_i hy
      refine List.pairwise_cons.2 ⟨fun z hz => ?_, ins_srt x l h'.2⟩
      rcases List.mem_cons.1 ((ins_perm x l).mem_iff.1 hz) with rfl | hz
      · cases hc : blt z y with
        | false => rfl
        | true => have := blt_trans hc hy; rw [blt_irrefl] at this; cases this
      · exact h'.1 z hz
    · rename_i hy
      have hy : blt y x = false := by simpa using hy
      refine List.pairwise_cons.2 ⟨fun z hz => ?_, h⟩
      rcases List.mem_cons.1 hz with rfl | hz
      · exact hy
      · exact blt_ntrans (h'.1 z hz) hy
def srt (l : List ByteArray) : List ByteArray := l.foldl (fun acc x => ins x acc) []
theorem srt_snoc (l : List ByteArray) (x : ByteArray) : srt (l ++ [x]) = ins x (srt l) := by simp [srt, List.foldl_append]
theorem foldl_ins_perm : ∀ (l acc : List ByteArray), (l.foldl (fun acc x => ins x acc) acc).Perm (acc ++ l)
  | [], acc => by simp
  | x :: l, acc => by
    refine (foldl_ins_perm l (ins x acc)).trans ?_
    refine ((ins_perm x acc).append_right l).trans ?_
    exact (List.perm_middle (a := x) (l₁ := acc) (l₂ := l)).symm
theorem foldl_ins_srt : ∀ (l acc : List ByteArray), Srt acc → Srt (l.foldl (fun acc x => ins x acc) acc)
  | [], _, h => h
  | x :: l, acc, h => foldl_ins_srt l _ (ins_srt x acc h)
theorem srt_perm (l : List ByteArray) : (srt l).Perm l := foldl_ins_perm l []
theorem srt_srt (l : List ByteArray) : Srt (srt l) := foldl_ins_srt l [] List.Pairwise.nil
theorem srt_length (l : List ByteArray) : (srt l).length = l.length := (srt_perm l).length_eq
theorem srt_unique : ∀ (a b : List ByteArray), a.Perm b → Srt a → Srt b → a = b
  | [], b, h, _, _ => (List.nil_perm.1 h).symm
  | x :: a, [], h, _, _ => by cases List.perm_nil.1 h
  | x :: a, y :: b, h, h1, h2 => by
    have h1' := List.pairwise_cons.1 h1
    have h2' := List.pairwise_cons.1 h2
    have e : x = y := by
      rcases List.mem_cons.1 (h.mem_iff.1 (List.mem_cons_self (a := x) (l := a))) with e | m1
      · exact e
      · rcases List.mem_cons.1 (h.mem_iff.2 (List.mem_cons_self (a := y) (l := b))) with e | m2
        · exact e.symm
        · exact blt_total (h2'.1 x m1) (h1'.1 y m2) |>.symm ▸ rfl
    subst e
    rw [srt_unique a b (List.Perm.cons_inv h) h1'.2 h2'.2]

/-- The trees one rotation away, in the order of places. -/
def moves (bk : Bool) (T : Tr) : List Tr := (T.turns bk).filterMap fun a => turnT bk a T
theorem moves_length (bk : Bool) (T : Tr) : (moves bk T).length = (T.turns bk).length := by
  unfold moves Tr.turns
  induction T.places [] with
  | nil => rfl
  | cons a l ih =>
    by_cases h : (turnT bk a T).isSome
    · obtain ⟨U, hU⟩ := Option.isSome_iff_exists.1 h
      rw [List.filter_cons_of_pos (p := fun a => (turnT bk a T).isSome) h]; simp only [List.filterMap_cons, hU, List.length_cons, ih]
    · rw [List.filter_cons_of_neg (p := fun a => (turnT bk a T).isSome) h]; exact ih
theorem moves_take (bk : Bool) (T : Tr) (k : Nat) (a : List UInt8) (h : (T.turns bk)[k]? = some a) : ∃ U, turnT bk a T = some U ∧ ((T.turns bk).take (k + 1)).filterMap (fun a => turnT bk a T) = ((T.turns bk).take k).filterMap (fun a => turnT bk a T) ++ [U] := by
  have hm : a ∈ T.turns bk := List.mem_of_getElem? h
  have hs : (turnT bk a T).isSome := by unfold Tr.turns at hm; exact (List.mem_filter.1 hm).2
  obtain ⟨U, hU⟩ := Option.isSome_iff_exists.1 hs
  refine ⟨U, hU, ?_⟩
  rw [List.take_add_one, h, List.filterMap_append]
  simp [hU]
theorem moves_carets {bk : Bool} {T U : Tr} (h : U ∈ moves bk T) : U.carets = T.carets := by
  unfold moves at h
  obtain ⟨a, _, h⟩ := List.mem_filterMap.1 h
  exact turnT_carets h
def near0 (T : Tr) : List Tr := moves false T ++ moves true T
/-- The texts of all neighbours, in order. -/
def nearS (T : Tr) : List ByteArray := srt ((near0 T).map tx)
theorem near0_length (T : Tr) : (near0 T).length ≤ 2 * T.carets := by
  unfold near0
  rw [List.length_append, moves_length, moves_length]
  have := turns_length false T; have := turns_length true T; omega
theorem near0_carets {T U : Tr} (h : U ∈ near0 T) : U.carets = T.carets := by
  rcases List.mem_append.1 h with h | h <;> exact moves_carets h
end Go.Proofs.Ytfjhecilkeikiaa.N
