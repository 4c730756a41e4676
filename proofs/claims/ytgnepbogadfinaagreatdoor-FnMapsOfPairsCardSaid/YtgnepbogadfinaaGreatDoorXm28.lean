import Derived.Test.YtgnepbogadfinaaGreatDoorXm25
import Derived.Test.YtgnepbogadfinaaGreatDoorXm27
/- A part of the proof: lemmas that later parts use. -/
set_option linter.unusedVariables false
set_option linter.unusedSimpArgs false
namespace Go.Proofs.YtgnepbogadfinaaGreatDoor.PA
open Go.RowKit Go.Proofs.YtgnepbogadfinaaGreatDoorW.PrintWords Go.Proofs.YtgnepbogadfinaaGreatDoorW.PrintLast Go.Proofs.YtgnepbogadfinaaGreatDoorW.PrintMore
attribute [local go_sem] max2_int min2_int max_two min_two max_three min_three max_four min_four
def spec_l1Cur_sureTree.l0 : Nat → Int → ByteArray → Int → List Int → Int → Int → Option (ByteArray × Int × Int)
  | 0, _, _, _, _, _, _ => none
  | k + 1, x1, x5, x6, x1000, x1001, x1002 => if x6 < x1 then ((spec_l1Cur_pick.f x1000 x1001 x1002 (wrap64 (x6 + 1))).bind fun bt108 => ((spec_trGraft.f x5 bt108.1 (⟨#[40, 46, 46, 41]⟩ : ByteArray)).bind fun t111 => (spec_l1Cur_sureTree.l0 k x1 t111 (wrap64 (x6 + 1)) x1000 bt108.2.1 bt108.2.2))) else (some (x5, x1001, x1002))
def spec_l1Cur_sureTree.f (k : Nat) (s0_0 : List Int) (s0_1 : Int) (s0_2 : Int) (a1 : Int) : Option (ByteArray × Int × Int) := spec_l1Cur_sureTree.l0 k a1 (⟨#[46]⟩ : ByteArray) 0 s0_0 s0_1 s0_2
theorem spec_l1Cur_sureTree.mono_l : ∀ k, (∀ y0 y1 y2 y3 y4 y5, LeO (spec_l1Cur_sureTree.l0 k y0 y1 y2 y3 y4 y5) (spec_l1Cur_sureTree.l0 (k + 1) y0 y1 y2 y3 y4 y5))
  | 0 => fun _ _ _ _ _ _ r h => by simp [spec_l1Cur_sureTree.l0] at h
  | k + 1 => by
    have ih0 := spec_l1Cur_sureTree.mono_l k
    · intro y0 y1 y2 y3 y4 y5
      unfold spec_l1Cur_sureTree.l0
      repeat' first
      | (with_reducible exact ih0 _ _ _ _ _ _)
      | (with_reducible exact LeO.refl _)
      | (with_reducible exact LeO.none _)
      | (with_reducible refine LeO.ite ?_ ?_)
      | (with_reducible refine LeO.bind ?_ (fun _ => ?_))
      | exact ih0 _ _ _ _ _ _
      | exact LeO.none _
      | refine LeO.ite ?_ ?_
      | refine LeO.bind ?_ (fun _ => ?_)
theorem spec_l1Cur_sureTree.mono : ∀ a0 a1 a2 a3 k, LeO (spec_l1Cur_sureTree.f k a0 a1 a2 a3) (spec_l1Cur_sureTree.f (k + 1) a0 a1 a2 a3) := by
  intro a0 a1 a2 a3 k
  have ih0 := spec_l1Cur_sureTree.mono_l k
  unfold spec_l1Cur_sureTree.f
  repeat' first
      | (with_reducible exact ih0 _ _ _ _ _ _)
      | (with_reducible exact LeO.refl _)
      | (with_reducible exact LeO.none _)
      | (with_reducible refine LeO.ite ?_ ?_)
      | (with_reducible refine LeO.bind ?_ (fun _ => ?_))
      | exact ih0 _ _ _ _ _ _
      | exact LeO.none _
      | refine LeO.ite ?_ ?_
      | refine LeO.bind ?_ (fun _ => ?_)
set_option maxHeartbeats 8000000 in
set_option maxRecDepth 100000 in
theorem spec_l1Cur_sureTree.calls (k : Nat) (g : Nat) (s0_0 : List Int) (s0_1 : Int) (s0_2 : Int) (a1 : Int) (r1 : ByteArray) (r2 : Int) (r3 : Int) (w0 w : World) (hI : IsS48 w0 w g s0_0 s0_1 s0_2) (hB : Below w0.heap.size w0 w) (h : spec_l1Cur_sureTree.f k s0_0 s0_1 s0_2 a1 = some (r1, r2, r3)) :
    Calls Tryz.prog 75 #[.pointer (some ⟨g, 0, none⟩), .int .i64 a1] w fun e w' => e = .returned (.string r1) ∧ IsS48 w0 w' g s0_0 r2 r3 ∧ Below w0.heap.size w0 w' ∧ KeepBut w w' g none := by
  have HI0 := Aside0.mk hI
  have HK := Aside0.mk (KeepBut.refl w g none)
  have HL := Aside0.mk hB.size
  clear hI
  have HW0 := Aside0.mk hB.size
  have HB := Aside0.mk hB
  clear hB
  have H : (spec_l1Cur_sureTree.l0 k a1 (⟨#[46]⟩ : ByteArray) 0 s0_0 s0_1 s0_2) = some (r1, r2, r3) := h
  clear h
  have H' := Aside0.mk H
  clear H
  go_enter Tryz.func75, Tryz.ntmps75
  go_wp2
  go_loopg [5, 6] k (fun kq v5 v6 w' => ∃ (x5_1 : ByteArray) (x6_1 : Int) (x1001_1 : Int) (x1002_1 : Int), v5 = .string x5_1 ∧ v6 = .int .i64 x6_1 ∧ Aside0 (spec_l1Cur_sureTree.l0 kq a1 x5_1 x6_1 s0_0 x1001_1 x1002_1 = some (r1, r2, r3)) ∧ Aside0 (kq ≤ k) ∧ Aside0 (IsS48 w0 w' g s0_0 x1001_1 x1002_1) ∧ Aside0 (KeepBut w w' g none) ∧ Aside0 (Below w0.heap.size w0 w'))
  case atStart => exact ⟨((⟨#[46]⟩ : ByteArray)), (0), (s0_1), (s0_2), (by first | rfl | (simp; done) | (simp [*]; done)), (by first | rfl | (simp; done) | (simp [*]; done)), H', ⟨Nat.le_refl _⟩, ⟨by exact lI48 HI0.out⟩, ⟨by exact lK HK.out⟩, ⟨by exact lB HB.out⟩⟩
  case round =>
   clear H'
   obtain ⟨x5_1, x6_1, x1001_1, x1002_1, rfl, rfl, HA, HK1, HI0, HK, HB⟩ := hrel
   cases gk with
   | zero => exact absurd HA.out (by simp [spec_l1Cur_sureTree.l0])
   | succ k1 =>
     have H := HA.out
     clear HA
     simp only [spec_l1Cur_sureTree.l0] at H
     by_cases c3 : x6_1 < a1
     · rw [if_pos c3] at H
       have c3b0 : decide (x6_1 < a1) = true := decide_eq_true c3
       clear c3
       replace H := Option.bind_eq_some_iff.mp H
       obtain ⟨⟨t108, t109, t110⟩, A40, H⟩ := H
       replace H : ((spec_trGraft.f x5_1 t108 (⟨#[40, 46, 46, 41]⟩ : ByteArray)).bind fun t111 => (spec_l1Cur_sureTree.l0 k1 a1 t111 (wrap64 (x6_1 + 1)) s0_0 t109 t110)) = some (r1, r2, r3) := H
       have A4 := Aside0.mk A40
       clear A40
       replace H := Option.bind_eq_some_iff.mp H
       obtain ⟨t111, A50, H⟩ := H
       replace H : (spec_l1Cur_sureTree.l0 k1 a1 t111 (wrap64 (x6_1 + 1)) s0_0 t109 t110) = some (r1, r2, r3) := H
       have A5 := Aside0.mk A50
       clear A50
       have H' := Aside0.mk H
       clear H
       go_wp2_with (first | ((with_reducible refine gate_callee (f := 39) rfl ?_); refine goesL_ (some 16) rfl rfl Tryz.func39 (by kernel_rfl) rfl #[.pointer (some ⟨g, 0, none⟩), .int .i64 (wrap64 (x6_1 + 1))] rfl lm ?_; (with_reducible refine (spec_l1Cur_pick.calls g s0_0 x1001_1 x1002_1 (wrap64 (x6_1 + 1)) t108 t109 t110 w0 _ ?side1 ?side2 A4.out).mono ?_); (case side1 => exact lI48 HI0.out); (case side2 => exact lB HB.out); rintro e w6 ⟨rfl, hi, hb, hk⟩; refine ⟨_, rfl, ?_⟩; have n0_ := Aside0.mk (KeepBut.trans (lK HK.out) hk (.inl rfl)); have n1_ := Aside0.mk (hb); have n2_ := Aside0.mk (hi); clear HK HB HI0; have HK := n0_; have HB := n1_; have HI0 := n2_; clear n0_ n1_ n2_; (try clear hb); (try clear hb2); (try clear hk); (try clear hi)) | ((with_reducible refine gate_callee (f := 76) rfl ?_); refine goesL_ (some 17) rfl rfl Tryz.func76 (by kernel_rfl) rfl #[.string x5_1, .int .i64 t108, .string (⟨#[40, 46, 46, 41]⟩ : ByteArray)] rfl lm ?_; (with_reducible refine (spec_trGraft.calls x5_1 t108 (⟨#[40, 46, 46, 41]⟩ : ByteArray) t111 _ A5.out).mono ?_); rintro e w' ⟨rfl, ⟨nd, rfl⟩⟩; refine ⟨_, rfl, ?_⟩))
       go_roundg k1
       case measure => have := HK1.out; omega
       case rel => exact ⟨(t111), (wrap64 (x6_1 + 1)), (t109), (t110), (by first | rfl | (simp; done) | (simp [*]; done)), (by first | rfl | (simp; done) | (simp [*]; done)), H', ⟨by have := HK1.out; omega⟩, ⟨by exact lI48 HI0.out⟩, ⟨by exact lK HK.out⟩, ⟨by exact lB HB.out⟩⟩
     · rw [if_neg c3] at H
       have c3b0 : decide (x6_1 < a1) = false := decide_eq_false c3
       clear c3
       simp only [Option.some.injEq, Prod.mk.injEq] at H
       obtain ⟨rfl, rfl, rfl⟩ := H
       go_wp2
       go_ret
       exact ⟨lx, by exact lI48 HI0.out, by exact lB HB.out, by exact lK HK.out⟩
def spec_l1Cur_surePair.f (k : Nat) (s0_0 : List Int) (s0_1 : Int) (s0_2 : Int) (a1 : Int) : Option (ByteArray × ByteArray × Int × Int) := (spec_l1Cur_sureTree.f k s0_0 s0_1 s0_2 a1).bind fun bt113 => ((spec_l1Cur_sureTree.f k s0_0 bt113.2.1 bt113.2.2 a1).bind fun bt116 => (some (bt113.1, bt116.1, bt116.2.1, bt116.2.2)))
theorem spec_l1Cur_surePair.mono : ∀ a0 a1 a2 a3 k, LeO (spec_l1Cur_surePair.f k a0 a1 a2 a3) (spec_l1Cur_surePair.f (k + 1) a0 a1 a2 a3) := by
  intro a0 a1 a2 a3 k
  unfold spec_l1Cur_surePair.f
  repeat' first
      | (with_reducible exact spec_l1Cur_sureTree.mono _ _ _ _ _)
      | (with_reducible exact LeO.refl _)
      | (with_reducible exact LeO.none _)
      | (with_reducible refine LeO.ite ?_ ?_)
      | (with_reducible refine LeO.bind ?_ (fun _ => ?_))
      | exact spec_l1Cur_sureTree.mono _ _ _ _ _
      | exact LeO.none _
      | refine LeO.ite ?_ ?_
      | refine LeO.bind ?_ (fun _ => ?_)
set_option maxHeartbeats 8000000 in
set_option maxRecDepth 100000 in
theorem spec_l1Cur_surePair.calls (k : Nat) (g : Nat) (s0_0 : List Int) (s0_1 : Int) (s0_2 : Int) (a1 : Int) (r1 : ByteArray) (r2 : ByteArray) (r3 : Int) (r4 : Int) (w0 w : World) (hI : IsS48 w0 w g s0_0 s0_1 s0_2) (hB : Below w0.heap.size w0 w) (h : spec_l1Cur_surePair.f k s0_0 s0_1 s0_2 a1 = some (r1, r2, r3, r4)) :
    Calls Tryz.prog 46 #[.pointer (some ⟨g, 0, none⟩), .int .i64 a1] w fun e w' => e = .returned (.agg #[.string r1, .string r2]) ∧ IsS48 w0 w' g s0_0 r3 r4 ∧ Below w0.heap.size w0 w' ∧ KeepBut w w' g none := by
  have hu25 := Tryz.underlying25
  have HI0 := Aside0.mk hI
  have HK := Aside0.mk (KeepBut.refl w g none)
  have HL := Aside0.mk hB.size
  clear hI
  have HW0 := Aside0.mk hB.size
  have HB := Aside0.mk hB
  clear hB
  have H : ((spec_l1Cur_sureTree.f k s0_0 s0_1 s0_2 a1).bind fun bt113 => ((spec_l1Cur_sureTree.f k s0_0 bt113.2.1 bt113.2.2 a1).bind fun bt116 => (some (bt113.1, bt116.1, bt116.2.1, bt116.2.2)))) = some (r1, r2, r3, r4) := h
  clear h
  replace H := Option.bind_eq_some_iff.mp H
  obtain ⟨⟨t113, t114, t115⟩, A30, H⟩ := H
  replace H : ((spec_l1Cur_sureTree.f k s0_0 t114 t115 a1).bind fun bt116 => (some (t113, bt116.1, bt116.2.1, bt116.2.2))) = some (r1, r2, r3, r4) := H
  have A3 := Aside0.mk A30
  clear A30
  replace H := Option.bind_eq_some_iff.mp H
  obtain ⟨⟨t116, t117, t118⟩, A40, H⟩ := H
  replace H : (some (t113, t116, t117, t118)) = some (r1, r2, r3, r4) := H
  have A4 := Aside0.mk A40
  clear A40
  simp only [Option.some.injEq, Prod.mk.injEq] at H
  obtain ⟨rfl, rfl, rfl, rfl⟩ := H
  go_enter Tryz.func46, Tryz.ntmps46
  go_wp2_with (first | ((with_reducible refine gate_dst (N := 4) rfl ?_); refine box_event ?hg (N := 4) ?hd (cs := #[.string (⟨#[]⟩ : ByteArray), .string (⟨#[]⟩ : ByteArray)]) (t := 25) ?hr ?_; (case hd => rfl); (case hg => rfl); (case hr => exact lr); intro gb112 hg w5 hbox hb; have n0_ := Aside0.mk (IsS48.below (lI48 HI0.out) hb); have n1_ := Aside0.mk (KeepBut.trans (lK HK.out) (KeepBut.of_below hb g none) (.inl rfl)); have n2_ := Aside0.mk (below_step (lB HB.out) hb); have n3_ := Aside0.mk (hbox); have n4_ := Aside0.mk ((by rw [hg]; exact (keep_size (w := w) (g := g) (row := none) (lK HK.out)) : w.heap.size ≤ gb112)); have n5_ := Aside0.mk ((Nat.le_trans HW0.out (by rw [hg]; exact (keep_size (w := w) (g := g) (row := none) (lK HK.out)) : w.heap.size ≤ gb112) : w0.heap.size ≤ gb112)); have n6_ := Aside0.mk ((by rw [hg]; exact Nat.ne_of_lt (IsS48.lt (show IsS48 w0 _ g s0_0 s0_1 s0_2 from by exact lI48 HI0.out)) : g ≠ gb112)); have n7_ := Aside0.mk ((by rw [hg]; exact Nat.ne_of_gt (IsS48.lt (show IsS48 w0 _ g s0_0 s0_1 s0_2 from by exact lI48 HI0.out)) : gb112 ≠ g)); clear HI0 HK HB; have HI0 := n0_; have HK := n1_; have HB := n2_; have BK112 := n3_; have GW112 := n4_; have GE112 := n5_; have NB0_112 := n6_; have NB112_0 := n7_; clear n0_ n1_ n2_ n3_ n4_ n5_ n6_ n7_; clear hb hbox hg) | ((with_reducible refine gate_callee (f := 75) rfl ?_); refine goesL_ (some 7) rfl rfl Tryz.func75 (by kernel_rfl) rfl #[.pointer (some ⟨g, 0, none⟩), .int .i64 a1] rfl lm ?_; (with_reducible refine (spec_l1Cur_sureTree.calls k g s0_0 s0_1 s0_2 a1 t113 t114 t115 w0 _ ?side1 ?side2 A3.out).mono ?_); (case side1 => exact lI48 HI0.out); (case side2 => exact lB HB.out); rintro e w6 ⟨rfl, hi, hb, hk⟩; refine ⟨_, rfl, ?_⟩; have n0_ := Aside0.mk (KeepBut.blk hk (g' := gb112) (o := .cells #[.string (⟨#[]⟩ : ByteArray), .string (⟨#[]⟩ : ByteArray)] 25 (0, 0)) (lb BK112.out) NB112_0.out (by simp)); have n1_ := Aside0.mk (KeepBut.trans (lK HK.out) hk (.inl rfl)); have n2_ := Aside0.mk (hb); have n3_ := Aside0.mk (hi); clear BK112 HK HB HI0; have BK112 := n0_; have HK := n1_; have HB := n2_; have HI0 := n3_; clear n0_ n1_ n2_ n3_; (try clear hb); (try clear hb2); (try clear hk); (try clear hi)) | ((with_reducible refine gate_callee (f := 75) rfl ?_); refine goesL_ (some 10) rfl rfl Tryz.func75 (by kernel_rfl) rfl #[.pointer (some ⟨g, 0, none⟩), .int .i64 a1] rfl lm ?_; (with_reducible refine (spec_l1Cur_sureTree.calls k g s0_0 t114 t115 a1 t116 t117 t118 w0 _ ?side1 ?side2 A4.out).mono ?_); (case side1 => exact lI48 HI0.out); (case side2 => exact lB HB.out); rintro e w7 ⟨rfl, hi, hb, hk⟩; refine ⟨_, rfl, ?_⟩; have n0_ := Aside0.mk (KeepBut.blk hk (g' := gb112) (o := .cells #[.string (⟨#[]⟩ : ByteArray), .string (⟨#[]⟩ : ByteArray)] 25 (0, 0)) (lb BK112.out) NB112_0.out (by simp)); have n1_ := Aside0.mk (KeepBut.trans (lK HK.out) hk (.inl rfl)); have n2_ := Aside0.mk (hb); have n3_ := Aside0.mk (hi); clear BK112 HK HB HI0; have BK112 := n0_; have HK := n1_; have HB := n2_; have HI0 := n3_; clear n0_ n1_ n2_ n3_; (try clear hb); (try clear hb2); (try clear hk); (try clear hi); have hnb8 := NB112_0.out; have hnc8 := NB0_112.out; have hcz9_0 : w7.cell? ⟨gb112, 0, none⟩ = some (.string (⟨#[]⟩ : ByteArray)) := (blk_cell BK112.out 0).trans rfl; have hcz9_1 : w7.cell? ⟨gb112, 1, none⟩ = some (.string (⟨#[]⟩ : ByteArray)) := (blk_cell BK112.out 1).trans rfl; have hfz9_0 := blk_frozen BK112.out 0; have hfz9_1 := blk_frozen BK112.out 1))
  refine bodyPost_ret (results_cell_row rfl _ _ gb112 25 #[.string t113, .string t116] (0, 0) _ rfl (by (with_reducible repeat (first | refine blk_drewN ?_ _ | refine blk_drew ?_ | refine blk_alloc ?_ _)); refine blk_put (cs := #[.string t113, .string (⟨#[]⟩ : ByteArray)]) ?_ 1 _ rfl; (with_reducible repeat (first | refine blk_drewN ?_ _ | refine blk_drew ?_ | refine blk_alloc ?_ _)); refine blk_put (cs := #[.string (⟨#[]⟩ : ByteArray), .string (⟨#[]⟩ : ByteArray)]) ?_ 0 _ rfl; exact lb BK112.out) Tryz.underlying25 rfl (by kernel_rfl)) rfl ?_
  exact ⟨lx, by exact lI48 HI0.out, by exact lB HB.out, by exact lK HK.out⟩
def spec_l1Cur_tree.f (k : Nat) (s0_0 : List Int) (s0_1 : Int) (s0_2 : Int) (a1 : Int) : Option (ByteArray × Int × Int) := (spec_l1Cur_pick.f s0_0 s0_1 s0_2 (wrap64 (a1 + 1))).bind fun bt134 => ((spec_l1Cur_sureTree.f k s0_0 bt134.2.1 bt134.2.2 bt134.1).bind fun bt137 => ((spec_l1Cur_pick.f s0_0 bt137.2.1 bt137.2.2 14).bind fun bt140 => (if bt140.1 = 0 then ((spec_l1Cur_spoilt.f k s0_0 bt140.2.1 bt140.2.2 bt137.1 (⟨#[40, 46, 41]⟩ : ByteArray)).bind fun bt143 => (some (bt143.1, bt143.2.1, bt143.2.2))) else (if bt140.1 = 1 then ((spec_l1Cur_pick.f s0_0 bt140.2.1 bt140.2.2 2).bind fun bt146 => ((spec_l1Cur_sureTree.f k s0_0 bt146.2.1 bt146.2.2 (wrap64 (8 + bt146.1))).bind fun bt149 => (some (bt149.1, bt149.2.1, bt149.2.2)))) else (some (bt137.1, bt140.2.1, bt140.2.2))))))
theorem spec_l1Cur_tree.mono : ∀ a0 a1 a2 a3 k, LeO (spec_l1Cur_tree.f k a0 a1 a2 a3) (spec_l1Cur_tree.f (k + 1) a0 a1 a2 a3) := by
  intro a0 a1 a2 a3 k
  unfold spec_l1Cur_tree.f
  repeat' first
      | (with_reducible exact spec_l1Cur_spoilt.mono _ _ _ _ _ _)
      | (with_reducible exact spec_l1Cur_sureTree.mono _ _ _ _ _)
      | (with_reducible exact LeO.refl _)
      | (with_reducible exact LeO.none _)
      | (with_reducible refine LeO.ite ?_ ?_)
      | (with_reducible refine LeO.bind ?_ (fun _ => ?_))
      | exact spec_l1Cur_spoilt.mono _ _ _ _ _ _
      | exact spec_l1Cur_sureTree.mono _ _ _ _ _
      | exact LeO.none _
      | refine LeO.ite ?_ ?_
      | refine LeO.bind ?_ (fun _ => ?_)
set_option maxHeartbeats 8000000 in
set_option maxRecDepth 100000 in
theorem spec_l1Cur_tree.calls (k : Nat) (g : Nat) (s0_0 : List Int) (s0_1 : Int) (s0_2 : Int) (a1 : Int) (r1 : ByteArray) (r2 : Int) (r3 : Int) (w0 w : World) (hI : IsS48 w0 w g s0_0 s0_1 s0_2) (hB : Below w0.heap.size w0 w) (h : spec_l1Cur_tree.f k s0_0 s0_1 s0_2 a1 = some (r1, r2, r3)) :
    Calls Tryz.prog 47 #[.pointer (some ⟨g, 0, none⟩), .int .i64 a1] w fun e w' => e = .returned (.string r1) ∧ IsS48 w0 w' g s0_0 r2 r3 ∧ Below w0.heap.size w0 w' ∧ KeepBut w w' g none := by
  have HI0 := Aside0.mk hI
  have HK := Aside0.mk (KeepBut.refl w g none)
  have HL := Aside0.mk hB.size
  clear hI
  have HW0 := Aside0.mk hB.size
  have HB := Aside0.mk hB
  clear hB
  have H : ((spec_l1Cur_pick.f s0_0 s0_1 s0_2 (wrap64 (a1 + 1))).bind fun bt134 => ((spec_l1Cur_sureTree.f k s0_0 bt134.2.1 bt134.2.2 bt134.1).bind fun bt137 => ((spec_l1Cur_pick.f s0_0 bt137.2.1 bt137.2.2 14).bind fun bt140 => (if bt140.1 = 0 then ((spec_l1Cur_spoilt.f k s0_0 bt140.2.1 bt140.2.2 bt137.1 (⟨#[40, 46, 41]⟩ : ByteArray)).bind fun bt143 => (some (bt143.1, bt143.2.1, bt143.2.2))) else (if bt140.1 = 1 then ((spec_l1Cur_pick.f s0_0 bt140.2.1 bt140.2.2 2).bind fun bt146 => ((spec_l1Cur_sureTree.f k s0_0 bt146.2.1 bt146.2.2 (wrap64 (8 + bt146.1))).bind fun bt149 => (some (bt149.1, bt149.2.1, bt149.2.2)))) else (some (bt137.1, bt140.2.1, bt140.2.2))))))) = some (r1, r2, r3) := h
  clear h
  replace H := Option.bind_eq_some_iff.mp H
  obtain ⟨⟨t134, t135, t136⟩, A30, H⟩ := H
  replace H : ((spec_l1Cur_sureTree.f k s0_0 t135 t136 t134).bind fun bt137 => ((spec_l1Cur_pick.f s0_0 bt137.2.1 bt137.2.2 14).bind fun bt140 => (if bt140.1 = 0 then ((spec_l1Cur_spoilt.f k s0_0 bt140.2.1 bt140.2.2 bt137.1 (⟨#[40, 46, 41]⟩ : ByteArray)).bind fun bt143 => (some (bt143.1, bt143.2.1, bt143.2.2))) else (if bt140.1 = 1 then ((spec_l1Cur_pick.f s0_0 bt140.2.1 bt140.2.2 2).bind fun bt146 => ((spec_l1Cur_sureTree.f k s0_0 bt146.2.1 bt146.2.2 (wrap64 (8 + bt146.1))).bind fun bt149 => (some (bt149.1, bt149.2.1, bt149.2.2)))) else (some (bt137.1, bt140.2.1, bt140.2.2)))))) = some (r1, r2, r3) := H
  have A3 := Aside0.mk A30
  clear A30
  replace H := Option.bind_eq_some_iff.mp H
  obtain ⟨⟨t137, t138, t139⟩, A40, H⟩ := H
  replace H : ((spec_l1Cur_pick.f s0_0 t138 t139 14).bind fun bt140 => (if bt140.1 = 0 then ((spec_l1Cur_spoilt.f k s0_0 bt140.2.1 bt140.2.2 t137 (⟨#[40, 46, 41]⟩ : ByteArray)).bind fun bt143 => (some (bt143.1, bt143.2.1, bt143.2.2))) else (if bt140.1 = 1 then ((spec_l1Cur_pick.f s0_0 bt140.2.1 bt140.2.2 2).bind fun bt146 => ((spec_l1Cur_sureTree.f k s0_0 bt146.2.1 bt146.2.2 (wrap64 (8 + bt146.1))).bind fun bt149 => (some (bt149.1, bt149.2.1, bt149.2.2)))) else (some (t137, bt140.2.1, bt140.2.2))))) = some (r1, r2, r3) := H
  have A4 := Aside0.mk A40
  clear A40
  replace H := Option.bind_eq_some_iff.mp H
  obtain ⟨⟨t140, t141, t142⟩, A50, H⟩ := H
  replace H : (if t140 = 0 then ((spec_l1Cur_spoilt.f k s0_0 t141 t142 t137 (⟨#[40, 46, 41]⟩ : ByteArray)).bind fun bt143 => (some (bt143.1, bt143.2.1, bt143.2.2))) else (if t140 = 1 then ((spec_l1Cur_pick.f s0_0 t141 t142 2).bind fun bt146 => ((spec_l1Cur_sureTree.f k s0_0 bt146.2.1 bt146.2.2 (wrap64 (8 + bt146.1))).bind fun bt149 => (some (bt149.1, bt149.2.1, bt149.2.2)))) else (some (t137, t141, t142)))) = some (r1, r2, r3) := H
  have A5 := Aside0.mk A50
  clear A50
  by_cases c6 : t140 = 0
  · rw [if_pos c6] at H
    have c6b0 : (t140 == 0) = true := beq_iff_eq.mpr c6
    have c6b1 : (t140 != 0) = false := bne_eq_false_iff_eq.mpr c6
    clear c6
    replace H := Option.bind_eq_some_iff.mp H
    obtain ⟨⟨t143, t144, t145⟩, A70, H⟩ := H
    replace H : (some (t143, t144, t145)) = some (r1, r2, r3) := H
    have A7 := Aside0.mk A70
    clear A70
    simp only [Option.some.injEq, Prod.mk.injEq] at H
    obtain ⟨rfl, rfl, rfl⟩ := H
    go_enter Tryz.func47, Tryz.ntmps47
    go_wp2_with (first | ((with_reducible refine gate_callee (f := 39) rfl ?_); refine goesL_ (some 10) rfl rfl Tryz.func39 (by kernel_rfl) rfl #[.pointer (some ⟨g, 0, none⟩), .int .i64 (wrap64 (a1 + 1))] rfl lm ?_; (with_reducible refine (spec_l1Cur_pick.calls g s0_0 s0_1 s0_2 (wrap64 (a1 + 1)) t134 t135 t136 w0 _ ?side1 ?side2 A3.out).mono ?_); (case side1 => exact lI48 HI0.out); (case side2 => exact lB HB.out); rintro e w8 ⟨rfl, hi, hb, hk⟩; refine ⟨_, rfl, ?_⟩; have n0_ := Aside0.mk (KeepBut.trans (lK HK.out) hk (.inl rfl)); have n1_ := Aside0.mk (hb); have n2_ := Aside0.mk (hi); clear HK HB HI0; have HK := n0_; have HB := n1_; have HI0 := n2_; clear n0_ n1_ n2_; (try clear hb); (try clear hb2); (try clear hk); (try clear hi)) | ((with_reducible refine gate_callee (f := 75) rfl ?_); refine goesL_ (some 11) rfl rfl Tryz.func75 (by kernel_rfl) rfl #[.pointer (some ⟨g, 0, none⟩), .int .i64 t134] rfl lm ?_; (with_reducible refine (spec_l1Cur_sureTree.calls k g s0_0 t135 t136 t134 t137 t138 t139 w0 _ ?side1 ?side2 A4.out).mono ?_); (case side1 => exact lI48 HI0.out); (case side2 => exact lB HB.out); rintro e w9 ⟨rfl, hi, hb, hk⟩; refine ⟨_, rfl, ?_⟩; have n0_ := Aside0.mk (KeepBut.trans (lK HK.out) hk (.inl rfl)); have n1_ := Aside0.mk (hb); have n2_ := Aside0.mk (hi); clear HK HB HI0; have HK := n0_; have HB := n1_; have HI0 := n2_; clear n0_ n1_ n2_; (try clear hb); (try clear hb2); (try clear hk); (try clear hi)) | ((with_reducible refine gate_callee (f := 39) rfl ?_); refine goesL_ (some 13) rfl rfl Tryz.func39 (by kernel_rfl) rfl #[.pointer (some ⟨g, 0, none⟩), .int .i64 14] rfl lm ?_; (with_reducible refine (spec_l1Cur_pick.calls g s0_0 t138 t139 14 t140 t141 t142 w0 _ ?side1 ?side2 A5.out).mono ?_); (case side1 => exact lI48 HI0.out); (case side2 => exact lB HB.out); rintro e w10 ⟨rfl, hi, hb, hk⟩; refine ⟨_, rfl, ?_⟩; have n0_ := Aside0.mk (KeepBut.trans (lK HK.out) hk (.inl rfl)); have n1_ := Aside0.mk (hb); have n2_ := Aside0.mk (hi); clear HK HB HI0; have HK := n0_; have HB := n1_; have HI0 := n2_; clear n0_ n1_ n2_; (try clear hb); (try clear hb2); (try clear hk); (try clear hi)) | ((with_reducible refine gate_callee (f := 48) rfl ?_); refine goesL_ (some 18) rfl rfl Tryz.func48 (by kernel_rfl) rfl #[.pointer (some ⟨g, 0, none⟩), .string t137, .string (⟨#[40, 46, 41]⟩ : ByteArray)] rfl lm ?_; (with_reducible refine (spec_l1Cur_spoilt.calls k g s0_0 t141 t142 t137 (⟨#[40, 46, 41]⟩ : ByteArray) t143 t144 t145 w0 _ ?side1 ?side2 A7.out).mono ?_); (case side1 => exact lI48 HI0.out); (case side2 => exact lB HB.out); rintro e w11 ⟨rfl, hi, hb, hk⟩; refine ⟨_, rfl, ?_⟩; have n0_ := Aside0.mk (KeepBut.trans (lK HK.out) hk (.inl rfl)); have n1_ := Aside0.mk (hb); have n2_ := Aside0.mk (hi); clear HK HB HI0; have HK := n0_; have HB := n1_; have HI0 := n2_; clear n0_ n1_ n2_; (try clear hb); (try clear hb2); (try clear hk); (try clear hi)))
    go_ret
    exact ⟨lx, by exact lI48 HI0.out, by exact lB HB.out, by exact lK HK.out⟩
  rw [if_neg c6] at H
  have c6b0 : (t140 == 0) = false := beq_eq_false_iff_ne.mpr c6
  have c6b1 : (t140 != 0) = true := bne_iff_ne.mpr c6
  by_cases c12 : t140 = 1
  rotate_left
  · rw [if_neg c12] at H
    have c12b0 : (t140 == 1) = false := beq_eq_false_iff_ne.mpr c12
    have c12b1 : (t140 != 1) = true := bne_iff_ne.mpr c12
    simp only [Option.some.injEq, Prod.mk.injEq] at H
    obtain ⟨rfl, rfl, rfl⟩ := H
    go_enter Tryz.func47, Tryz.ntmps47
    go_wp2_with (first | ((with_reducible refine gate_callee (f := 39) rfl ?_); refine goesL_ (some 10) rfl rfl Tryz.func39 (by kernel_rfl) rfl #[.pointer (some ⟨g, 0, none⟩), .int .i64 (wrap64 (a1 + 1))] rfl lm ?_; (with_reducible refine (spec_l1Cur_pick.calls g s0_0 s0_1 s0_2 (wrap64 (a1 + 1)) t134 t135 t136 w0 _ ?side1 ?side2 A3.out).mono ?_); (case side1 => exact lI48 HI0.out); (case side2 => exact lB HB.out); rintro e w20 ⟨rfl, hi, hb, hk⟩; refine ⟨_, rfl, ?_⟩; have n0_ := Aside0.mk (KeepBut.trans (lK HK.out) hk (.inl rfl)); have n1_ := Aside0.mk (hb); have n2_ := Aside0.mk (hi); clear HK HB HI0; have HK := n0_; have HB := n1_; have HI0 := n2_; clear n0_ n1_ n2_; (try clear hb); (try clear hb2); (try clear hk); (try clear hi)) | ((with_reducible refine gate_callee (f := 75) rfl ?_); refine goesL_ (some 11) rfl rfl Tryz.func75 (by kernel_rfl) rfl #[.pointer (some ⟨g, 0, none⟩), .int .i64 t134] rfl lm ?_; (with_reducible refine (spec_l1Cur_sureTree.calls k g s0_0 t135 t136 t134 t137 t138 t139 w0 _ ?side1 ?side2 A4.out).mono ?_); (case side1 => exact lI48 HI0.out); (case side2 => exact lB HB.out); rintro e w21 ⟨rfl, hi, hb, hk⟩; refine ⟨_, rfl, ?_⟩; have n0_ := Aside0.mk (KeepBut.trans (lK HK.out) hk (.inl rfl)); have n1_ := Aside0.mk (hb); have n2_ := Aside0.mk (hi); clear HK HB HI0; have HK := n0_; have HB := n1_; have HI0 := n2_; clear n0_ n1_ n2_; (try clear hb); (try clear hb2); (try clear hk); (try clear hi)) | ((with_reducible refine gate_callee (f := 39) rfl ?_); refine goesL_ (some 13) rfl rfl Tryz.func39 (by kernel_rfl) rfl #[.pointer (some ⟨g, 0, none⟩), .int .i64 14] rfl lm ?_; (with_reducible refine (spec_l1Cur_pick.calls g s0_0 t138 t139 14 t140 t141 t142 w0 _ ?side1 ?side2 A5.out).mono ?_); (case side1 => exact lI48 HI0.out); (case side2 => exact lB HB.out); rintro e w22 ⟨rfl, hi, hb, hk⟩; refine ⟨_, rfl, ?_⟩; have n0_ := Aside0.mk (KeepBut.trans (lK HK.out) hk (.inl rfl)); have n1_ := Aside0.mk (hb); have n2_ := Aside0.mk (hi); clear HK HB HI0; have HK := n0_; have HB := n1_; have HI0 := n2_; clear n0_ n1_ n2_; (try clear hb); (try clear hb2); (try clear hk); (try clear hi)))
    go_ret
    exact ⟨lx, by exact lI48 HI0.out, by exact lB HB.out, by exact lK HK.out⟩

  rw [if_pos c12] at H
  have c12b0 : (t140 == 1) = true := beq_iff_eq.mpr c12
  have c12b1 : (t140 != 1) = false := bne_eq_false_iff_eq.mpr c12
  clear c12
  replace H := Option.bind_eq_some_iff.mp H
  obtain ⟨⟨t146, t147, t148⟩, A130, H⟩ := H
  replace H : ((spec_l1Cur_sureTree.f k s0_0 t147 t148 (wrap64 (8 + t146))).bind fun bt149 => (some (bt149.1, bt149.2.1, bt149.2.2))) = some (r1, r2, r3) := H
  have A13 := Aside0.mk A130
  clear A130
  replace H := Option.bind_eq_some_iff.mp H
  obtain ⟨⟨t149, t150, t151⟩, A140, H⟩ := H
  replace H : (some (t149, t150, t151)) = some (r1, r2, r3) := H
  have A14 := Aside0.mk A140
  clear A140
  simp only [Option.some.injEq, Prod.mk.injEq] at H
  obtain ⟨rfl, rfl, rfl⟩ := H
  go_enter Tryz.func47, Tryz.ntmps47
  go_wp2_with (first | ((with_reducible refine gate_callee (f := 39) rfl ?_); refine goesL_ (some 10) rfl rfl Tryz.func39 (by kernel_rfl) rfl #[.pointer (some ⟨g, 0, none⟩), .int .i64 (wrap64 (a1 + 1))] rfl lm ?_; (with_reducible refine (spec_l1Cur_pick.calls g s0_0 s0_1 s0_2 (wrap64 (a1 + 1)) t134 t135 t136 w0 _ ?side1 ?side2 A3.out).mono ?_); (case side1 => exact lI48 HI0.out); (case side2 => exact lB HB.out); rintro e w15 ⟨rfl, hi, hb, hk⟩; refine ⟨_, rfl, ?_⟩; have n0_ := Aside0.mk (KeepBut.trans (lK HK.out) hk (.inl rfl)); have n1_ := Aside0.mk (hb); have n2_ := Aside0.mk (hi); clear HK HB HI0; have HK := n0_; have HB := n1_; have HI0 := n2_; clear n0_ n1_ n2_; (try clear hb); (try clear hb2); (try clear hk); (try clear hi)) | ((with_reducible refine gate_callee (f := 75) rfl ?_); refine goesL_ (some 11) rfl rfl Tryz.func75 (by kernel_rfl) rfl #[.pointer (some ⟨g, 0, none⟩), .int .i64 t134] rfl lm ?_; (with_reducible refine (spec_l1Cur_sureTree.calls k g s0_0 t135 t136 t134 t137 t138 t139 w0 _ ?side1 ?side2 A4.out).mono ?_); (case side1 => exact lI48 HI0.out); (case side2 => exact lB HB.out); rintro e w16 ⟨rfl, hi, hb, hk⟩; refine ⟨_, rfl, ?_⟩; have n0_ := Aside0.mk (KeepBut.trans (lK HK.out) hk (.inl rfl)); have n1_ := Aside0.mk (hb); have n2_ := Aside0.mk (hi); clear HK HB HI0; have HK := n0_; have HB := n1_; have HI0 := n2_; clear n0_ n1_ n2_; (try clear hb); (try clear hb2); (try clear hk); (try clear hi)) | ((with_reducible refine gate_callee (f := 39) rfl ?_); refine goesL_ (some 13) rfl rfl Tryz.func39 (by kernel_rfl) rfl #[.pointer (some ⟨g, 0, none⟩), .int .i64 14] rfl lm ?_; (with_reducible refine (spec_l1Cur_pick.calls g s0_0 t138 t139 14 t140 t141 t142 w0 _ ?side1 ?side2 A5.out).mono ?_); (case side1 => exact lI48 HI0.out); (case side2 => exact lB HB.out); rintro e w17 ⟨rfl, hi, hb, hk⟩; refine ⟨_, rfl, ?_⟩; have n0_ := Aside0.mk (KeepBut.trans (lK HK.out) hk (.inl rfl)); have n1_ := Aside0.mk (hb); have n2_ := Aside0.mk (hi); clear HK HB HI0; have HK := n0_; have HB := n1_; have HI0 := n2_; clear n0_ n1_ n2_; (try clear hb); (try clear hb2); (try clear hk); (try clear hi)) | ((with_reducible refine gate_callee (f := 39) rfl ?_); refine goesL_ (some 23) rfl rfl Tryz.func39 (by kernel_rfl) rfl #[.pointer (some ⟨g, 0, none⟩), .int .i64 2] rfl lm ?_; (with_reducible refine (spec_l1Cur_pick.calls g s0_0 t141 t142 2 t146 t147 t148 w0 _ ?side1 ?side2 A13.out).mono ?_); (case side1 => exact lI48 HI0.out); (case side2 => exact lB HB.out); rintro e w18 ⟨rfl, hi, hb, hk⟩; refine ⟨_, rfl, ?_⟩; have n0_ := Aside0.mk (KeepBut.trans (lK HK.out) hk (.inl rfl)); have n1_ := Aside0.mk (hb); have n2_ := Aside0.mk (hi); clear HK HB HI0; have HK := n0_; have HB := n1_; have HI0 := n2_; clear n0_ n1_ n2_; (try clear hb); (try clear hb2); (try clear hk); (try clear hi)) | ((with_reducible refine gate_callee (f := 75) rfl ?_); refine goesL_ (some 25) rfl rfl Tryz.func75 (by kernel_rfl) rfl #[.pointer (some ⟨g, 0, none⟩), .int .i64 (wrap64 (8 + t146))] rfl lm ?_; (with_reducible refine (spec_l1Cur_sureTree.calls k g s0_0 t147 t148 (wrap64 (8 + t146)) t149 t150 t151 w0 _ ?side1 ?side2 A14.out).mono ?_); (case side1 => exact lI48 HI0.out); (case side2 => exact lB HB.out); rintro e w19 ⟨rfl, hi, hb, hk⟩; refine ⟨_, rfl, ?_⟩; have n0_ := Aside0.mk (KeepBut.trans (lK HK.out) hk (.inl rfl)); have n1_ := Aside0.mk (hb); have n2_ := Aside0.mk (hi); clear HK HB HI0; have HK := n0_; have HB := n1_; have HI0 := n2_; clear n0_ n1_ n2_; (try clear hb); (try clear hb2); (try clear hk); (try clear hi)))
  go_ret
  exact ⟨lx, by exact lI48 HI0.out, by exact lB HB.out, by exact lK HK.out⟩
def spec_l1Cur_pair.f (k : Nat) (s0_0 : List Int) (s0_1 : Int) (s0_2 : Int) (a1 : Int) : Option (ByteArray × ByteArray × Int × Int) := (spec_l1Cur_pick.f s0_0 s0_1 s0_2 (wrap64 (a1 + 1))).bind fun bt153 => ((spec_l1Cur_surePair.f k s0_0 bt153.2.1 bt153.2.2 bt153.1).bind fun bt156 => ((spec_l1Cur_pick.f s0_0 bt156.2.2.1 bt156.2.2.2 14).bind fun bt161 => (if bt161.1 = 0 then ((spec_l1Cur_tree.f k s0_0 bt161.2.1 bt161.2.2 a1).bind fun bt164 => (some (bt156.1, bt164.1, bt164.2.1, bt164.2.2))) else (if bt161.1 = 1 then ((spec_l1Cur_spoilt.f k s0_0 bt161.2.1 bt161.2.2 bt156.1 (⟨#[40, 46, 41]⟩ : ByteArray)).bind fun bt167 => (some (bt167.1, bt156.2.1, bt167.2.1, bt167.2.2))) else (if bt161.1 = 2 then ((spec_l1Cur_pick.f s0_0 bt161.2.1 bt161.2.2 2).bind fun bt170 => ((spec_l1Cur_surePair.f k s0_0 bt170.2.1 bt170.2.2 (wrap64 (8 + bt170.1))).bind fun bt173 => (some (bt173.1, bt173.2.1, bt173.2.2.1, bt173.2.2.2)))) else (if bt161.1 = 3 then ((spec_l1Cur_pick.f s0_0 bt161.2.1 bt161.2.2 4).bind fun bt177 => ((spec_prGenerator.f bt177.1).bind fun bt180 => (some (bt180.1, bt180.2, bt177.2.1, bt177.2.2)))) else (some (bt156.1, bt156.2.1, bt161.2.1, bt161.2.2))))))))
theorem spec_l1Cur_pair.mono : ∀ a0 a1 a2 a3 k, LeO (spec_l1Cur_pair.f k a0 a1 a2 a3) (spec_l1Cur_pair.f (k + 1) a0 a1 a2 a3) := by
  intro a0 a1 a2 a3 k
  unfold spec_l1Cur_pair.f
  repeat' first
      | (with_reducible exact spec_l1Cur_spoilt.mono _ _ _ _ _ _)
      | (with_reducible exact spec_l1Cur_surePair.mono _ _ _ _ _)
      | (with_reducible exact spec_l1Cur_tree.mono _ _ _ _ _)
      | (with_reducible exact LeO.refl _)
      | (with_reducible exact LeO.none _)
      | (with_reducible refine LeO.ite ?_ ?_)
      | (with_reducible refine LeO.bind ?_ (fun _ => ?_))
      | exact spec_l1Cur_spoilt.mono _ _ _ _ _ _
      | exact spec_l1Cur_surePair.mono _ _ _ _ _
      | exact spec_l1Cur_tree.mono _ _ _ _ _
      | exact LeO.none _
      | refine LeO.ite ?_ ?_
      | refine LeO.bind ?_ (fun _ => ?_)
set_option maxHeartbeats 8000000 in
set_option maxRecDepth 100000 in
theorem spec_l1Cur_pair.calls (k : Nat) (g : Nat) (s0_0 : List Int) (s0_1 : Int) (s0_2 : Int) (a1 : Int) (r1 : ByteArray) (r2 : ByteArray) (r3 : Int) (r4 : Int) (w0 w : World) (hI : IsS48 w0 w g s0_0 s0_1 s0_2) (hB : Below w0.heap.size w0 w) (h : spec_l1Cur_pair.f k s0_0 s0_1 s0_2 a1 = some (r1, r2, r3, r4)) :
    Calls Tryz.prog 19 #[.pointer (some ⟨g, 0, none⟩), .int .i64 a1] w fun e w' => e = .returned (.agg #[.string r1, .string r2]) ∧ IsS48 w0 w' g s0_0 r3 r4 ∧ Below w0.heap.size w0 w' ∧ KeepBut w w' g none := by
  have hu25 := Tryz.underlying25
  have HI0 := Aside0.mk hI
  have HK := Aside0.mk (KeepBut.refl w g none)
  have HL := Aside0.mk hB.size
  clear hI
  have HW0 := Aside0.mk hB.size
  have HB := Aside0.mk hB
  clear hB
  have H : ((spec_l1Cur_pick.f s0_0 s0_1 s0_2 (wrap64 (a1 + 1))).bind fun bt153 => ((spec_l1Cur_surePair.f k s0_0 bt153.2.1 bt153.2.2 bt153.1).bind fun bt156 => ((spec_l1Cur_pick.f s0_0 bt156.2.2.1 bt156.2.2.2 14).bind fun bt161 => (if bt161.1 = 0 then ((spec_l1Cur_tree.f k s0_0 bt161.2.1 bt161.2.2 a1).bind fun bt164 => (some (bt156.1, bt164.1, bt164.2.1, bt164.2.2))) else (if bt161.1 = 1 then ((spec_l1Cur_spoilt.f k s0_0 bt161.2.1 bt161.2.2 bt156.1 (⟨#[40, 46, 41]⟩ : ByteArray)).bind fun bt167 => (some (bt167.1, bt156.2.1, bt167.2.1, bt167.2.2))) else (if bt161.1 = 2 then ((spec_l1Cur_pick.f s0_0 bt161.2.1 bt161.2.2 2).bind fun bt170 => ((spec_l1Cur_surePair.f k s0_0 bt170.2.1 bt170.2.2 (wrap64 (8 + bt170.1))).bind fun bt173 => (some (bt173.1, bt173.2.1, bt173.2.2.1, bt173.2.2.2)))) else (if bt161.1 = 3 then ((spec_l1Cur_pick.f s0_0 bt161.2.1 bt161.2.2 4).bind fun bt177 => ((spec_prGenerator.f bt177.1).bind fun bt180 => (some (bt180.1, bt180.2, bt177.2.1, bt177.2.2)))) else (some (bt156.1, bt156.2.1, bt161.2.1, bt161.2.2))))))))) = some (r1, r2, r3, r4) := h
  clear h
  replace H := Option.bind_eq_some_iff.mp H
  obtain ⟨⟨t153, t154, t155⟩, A30, H⟩ := H
  replace H : ((spec_l1Cur_surePair.f k s0_0 t154 t155 t153).bind fun bt156 => ((spec_l1Cur_pick.f s0_0 bt156.2.2.1 bt156.2.2.2 14).bind fun bt161 => (if bt161.1 = 0 then ((spec_l1Cur_tree.f k s0_0 bt161.2.1 bt161.2.2 a1).bind fun bt164 => (some (bt156.1, bt164.1, bt164.2.1, bt164.2.2))) else (if bt161.1 = 1 then ((spec_l1Cur_spoilt.f k s0_0 bt161.2.1 bt161.2.2 bt156.1 (⟨#[40, 46, 41]⟩ : ByteArray)).bind fun bt167 => (some (bt167.1, bt156.2.1, bt167.2.1, bt167.2.2))) else (if bt161.1 = 2 then ((spec_l1Cur_pick.f s0_0 bt161.2.1 bt161.2.2 2).bind fun bt170 => ((spec_l1Cur_surePair.f k s0_0 bt170.2.1 bt170.2.2 (wrap64 (8 + bt170.1))).bind fun bt173 => (some (bt173.1, bt173.2.1, bt173.2.2.1, bt173.2.2.2)))) else (if bt161.1 = 3 then ((spec_l1Cur_pick.f s0_0 bt161.2.1 bt161.2.2 4).bind fun bt177 => ((spec_prGenerator.f bt177.1).bind fun bt180 => (some (bt180.1, bt180.2, bt177.2.1, bt177.2.2)))) else (some (bt156.1, bt156.2.1, bt161.2.1, bt161.2.2)))))))) = some (r1, r2, r3, r4) := H
  have A3 := Aside0.mk A30
  clear A30
  replace H := Option.bind_eq_some_iff.mp H
  obtain ⟨⟨t156, t157, t158, t159⟩, A40, H⟩ := H
  replace H : ((spec_l1Cur_pick.f s0_0 t158 t159 14).bind fun bt161 => (if bt161.1 = 0 then ((spec_l1Cur_tree.f k s0_0 bt161.2.1 bt161.2.2 a1).bind fun bt164 => (some (t156, bt164.1, bt164.2.1, bt164.2.2))) else (if bt161.1 = 1 then ((spec_l1Cur_spoilt.f k s0_0 bt161.2.1 bt161.2.2 t156 (⟨#[40, 46, 41]⟩ : ByteArray)).bind fun bt167 => (some (bt167.1, t157, bt167.2.1, bt167.2.2))) else (if bt161.1 = 2 then ((spec_l1Cur_pick.f s0_0 bt161.2.1 bt161.2.2 2).bind fun bt170 => ((spec_l1Cur_surePair.f k s0_0 bt170.2.1 bt170.2.2 (wrap64 (8 + bt170.1))).bind fun bt173 => (some (bt173.1, bt173.2.1, bt173.2.2.1, bt173.2.2.2)))) else (if bt161.1 = 3 then ((spec_l1Cur_pick.f s0_0 bt161.2.1 bt161.2.2 4).bind fun bt177 => ((spec_prGenerator.f bt177.1).bind fun bt180 => (some (bt180.1, bt180.2, bt177.2.1, bt177.2.2)))) else (some (t156, t157, bt161.2.1, bt161.2.2))))))) = some (r1, r2, r3, r4) := H
  have A4 := Aside0.mk A40
  clear A40
  replace H := Option.bind_eq_some_iff.mp H
  obtain ⟨⟨t161, t162, t163⟩, A50, H⟩ := H
  replace H : (if t161 = 0 then ((spec_l1Cur_tree.f k s0_0 t162 t163 a1).bind fun bt164 => (some (t156, bt164.1, bt164.2.1, bt164.2.2))) else (if t161 = 1 then ((spec_l1Cur_spoilt.f k s0_0 t162 t163 t156 (⟨#[40, 46, 41]⟩ : ByteArray)).bind fun bt167 => (some (bt167.1, t157, bt167.2.1, bt167.2.2))) else (if t161 = 2 then ((spec_l1Cur_pick.f s0_0 t162 t163 2).bind fun bt170 => ((spec_l1Cur_surePair.f k s0_0 bt170.2.1 bt170.2.2 (wrap64 (8 + bt170.1))).bind fun bt173 => (some (bt173.1, bt173.2.1, bt173.2.2.1, bt173.2.2.2)))) else (if t161 = 3 then ((spec_l1Cur_pick.f s0_0 t162 t163 4).bind fun bt177 => ((spec_prGenerator.f bt177.1).bind fun bt180 => (some (bt180.1, bt180.2, bt177.2.1, bt177.2.2)))) else (some (t156, t157, t162, t163)))))) = some (r1, r2, r3, r4) := H
  have A5 := Aside0.mk A50
  clear A50
  by_cases c6 : t161 = 0
  · rw [if_pos c6] at H
    have c6b0 : (t161 == 0) = true := beq_iff_eq.mpr c6
    have c6b1 : (t161 != 0) = false := bne_eq_false_iff_eq.mpr c6
    clear c6
    replace H := Option.bind_eq_some_iff.mp H
    obtain ⟨⟨t164, t165, t166⟩, A70, H⟩ := H
    replace H : (some (t156, t164, t165, t166)) = some (r1, r2, r3, r4) := H
    have A7 := Aside0.mk A70
    clear A70
    simp only [Option.some.injEq, Prod.mk.injEq] at H
    obtain ⟨rfl, rfl, rfl, rfl⟩ := H
    go_enter Tryz.func19, Tryz.ntmps19
    go_wp2_with (first | ((with_reducible refine gate_dst (N := 4) rfl ?_); refine box_event ?hg (N := 4) ?hd (cs := #[.string (⟨#[]⟩ : ByteArray), .string (⟨#[]⟩ : ByteArray)]) (t := 25) ?hr ?_; (case hd => rfl); (case hg => rfl); (case hr => exact lr); intro gb152 hg w8 hbox hb; have n0_ := Aside0.mk (IsS48.below (lI48 HI0.out) hb); have n1_ := Aside0.mk (KeepBut.trans (lK HK.out) (KeepBut.of_below hb g none) (.inl rfl)); have n2_ := Aside0.mk (below_step (lB HB.out) hb); have n3_ := Aside0.mk (hbox); have n4_ := Aside0.mk ((by rw [hg]; exact (keep_size (w := w) (g := g) (row := none) (lK HK.out)) : w.heap.size ≤ gb152)); have n5_ := Aside0.mk ((Nat.le_trans HW0.out (by rw [hg]; exact (keep_size (w := w) (g := g) (row := none) (lK HK.out)) : w.heap.size ≤ gb152) : w0.heap.size ≤ gb152)); have n6_ := Aside0.mk ((by rw [hg]; exact Nat.ne_of_lt (IsS48.lt (show IsS48 w0 _ g s0_0 s0_1 s0_2 from by exact lI48 HI0.out)) : g ≠ gb152)); have n7_ := Aside0.mk ((by rw [hg]; exact Nat.ne_of_gt (IsS48.lt (show IsS48 w0 _ g s0_0 s0_1 s0_2 from by exact lI48 HI0.out)) : gb152 ≠ g)); clear HI0 HK HB; have HI0 := n0_; have HK := n1_; have HB := n2_; have BK152 := n3_; have GW152 := n4_; have GE152 := n5_; have NB0_152 := n6_; have NB152_0 := n7_; clear n0_ n1_ n2_ n3_ n4_ n5_ n6_ n7_; clear hb hbox hg) | ((with_reducible refine gate_callee (f := 39) rfl ?_); refine goesL_ (some 10) rfl rfl Tryz.func39 (by kernel_rfl) rfl #[.pointer (some ⟨g, 0, none⟩), .int .i64 (wrap64 (a1 + 1))] rfl lm ?_; (with_reducible refine (spec_l1Cur_pick.calls g s0_0 s0_1 s0_2 (wrap64 (a1 + 1)) t153 t154 t155 w0 _ ?side1 ?side2 A3.out).mono ?_); (case side1 => exact lI48 HI0.out); (case side2 => exact lB HB.out); rintro e w9 ⟨rfl, hi, hb, hk⟩; refine ⟨_, rfl, ?_⟩; have n0_ := Aside0.mk (KeepBut.blk hk (g' := gb152) (o := .cells #[.string (⟨#[]⟩ : ByteArray), .string (⟨#[]⟩ : ByteArray)] 25 (0, 0)) (lb BK152.out) NB152_0.out (by simp)); have n1_ := Aside0.mk (KeepBut.trans (lK HK.out) hk (.inl rfl)); have n2_ := Aside0.mk (hb); have n3_ := Aside0.mk (hi); clear BK152 HK HB HI0; have BK152 := n0_; have HK := n1_; have HB := n2_; have HI0 := n3_; clear n0_ n1_ n2_ n3_; (try clear hb); (try clear hb2); (try clear hk); (try clear hi)) | ((with_reducible refine gate_callee (f := 46) rfl ?_); refine goesL_ (some 11) rfl rfl Tryz.func46 (by kernel_rfl) rfl #[.pointer (some ⟨g, 0, none⟩), .int .i64 t153] rfl lm ?_; (with_reducible refine (spec_l1Cur_surePair.calls k g s0_0 t154 t155 t153 t156 t157 t158 t159 w0 _ ?side1 ?side2 A4.out).mono ?_); (case side1 => exact lI48 HI0.out); (case side2 => exact lB HB.out); rintro e w10 ⟨rfl, hi, hb, hk⟩; refine ⟨_, rfl, ?_⟩; have n0_ := Aside0.mk (KeepBut.blk hk (g' := gb152) (o := .cells #[.string (⟨#[]⟩ : ByteArray), .string (⟨#[]⟩ : ByteArray)] 25 (0, 0)) (lb BK152.out) NB152_0.out (by simp)); have n1_ := Aside0.mk (KeepBut.trans (lK HK.out) hk (.inl rfl)); have n2_ := Aside0.mk (hb); have n3_ := Aside0.mk (hi); clear BK152 HK HB HI0; have BK152 := n0_; have HK := n1_; have HB := n2_; have HI0 := n3_; clear n0_ n1_ n2_ n3_; (try clear hb); (try clear hb2); (try clear hk); (try clear hi)) | ((with_reducible refine gate_dst (N := 5) rfl ?_); refine box_event ?hg (N := 5) ?hd (cs := #[.string (⟨#[]⟩ : ByteArray), .string (⟨#[]⟩ : ByteArray)]) (t := 25) ?hr ?_; (case hd => rfl); (case hg => rfl); (case hr => exact lr); intro gb160 hg w11 hbox hb; have n0_ := Aside0.mk (IsS48.below (lI48 HI0.out) hb); have n1_ := Aside0.mk (blk_below (lb BK152.out) hb); have n2_ := Aside0.mk (KeepBut.trans (lK HK.out) (KeepBut.of_below hb g none) (.inl rfl)); have n3_ := Aside0.mk (below_step (lB HB.out) hb); have n4_ := Aside0.mk (hbox); have n5_ := Aside0.mk ((by rw [hg]; exact (keep_size (w := w) (g := g) (row := none) (lK HK.out)) : w.heap.size ≤ gb160)); have n6_ := Aside0.mk ((Nat.le_trans HW0.out (by rw [hg]; exact (keep_size (w := w) (g := g) (row := none) (lK HK.out)) : w.heap.size ≤ gb160) : w0.heap.size ≤ gb160)); have n7_ := na hg (lb BK152.out); have n8_ := nz hg (lb BK152.out); have n9_ := Aside0.mk ((by rw [hg]; exact Nat.ne_of_lt (IsS48.lt (show IsS48 w0 _ g s0_0 t158 t159 from by exact lI48 HI0.out)) : g ≠ gb160)); have n10_ := Aside0.mk ((by rw [hg]; exact Nat.ne_of_gt (IsS48.lt (show IsS48 w0 _ g s0_0 t158 t159 from by exact lI48 HI0.out)) : gb160 ≠ g)); clear HI0 BK152 HK HB; have HI0 := n0_; have BK152 := n1_; have HK := n2_; have HB := n3_; have BK160 := n4_; have GW160 := n5_; have GE160 := n6_; have NB152_160 := n7_; have NB160_152 := n8_; have NB0_160 := n9_; have NB160_0 := n10_; clear n0_ n1_ n2_ n3_ n4_ n5_ n6_ n7_ n8_ n9_ n10_; clear hb hbox hg; have hnb12 := NB160_152.out; have hnc12 := NB152_160.out; have hnb13 := NB160_0.out; have hnc13 := NB0_160.out; have hcz14_0 : w11.cell? ⟨gb160, 0, none⟩ = some (.string (⟨#[]⟩ : ByteArray)) := (blk_cell BK160.out 0).trans rfl; have hcz14_1 : w11.cell? ⟨gb160, 1, none⟩ = some (.string (⟨#[]⟩ : ByteArray)) := (blk_cell BK160.out 1).trans rfl; have hfz14_0 := blk_frozen BK160.out 0; have hfz14_1 := blk_frozen BK160.out 1) | ((with_reducible refine gate_callee (f := 39) rfl ?_); refine goesL_ (some 13) rfl rfl Tryz.func39 (by kernel_rfl) rfl #[.pointer (some ⟨g, 0, none⟩), .int .i64 14] rfl lm ?_; (with_reducible refine (spec_l1Cur_pick.calls g s0_0 t158 t159 14 t161 t162 t163 w0 _ ?side1 ?side2 A5.out).mono ?_); (case side1 => exact lI48 HI0.out); (case side2 => exact lB HB.out); rintro e w15 ⟨rfl, hi, hb, hk⟩; refine ⟨_, rfl, ?_⟩; have n0_ := Aside0.mk (KeepBut.blk hk (g' := gb152) (o := .cells #[.string (⟨#[]⟩ : ByteArray), .string (⟨#[]⟩ : ByteArray)] 25 (0, 0)) (by (with_reducible repeat (first | refine blk_drewN ?_ _ | refine blk_drew ?_ | refine blk_alloc ?_ _)); refine blk_far ?_ NB152_160.out _; (with_reducible repeat (first | refine blk_drewN ?_ _ | refine blk_drew ?_ | refine blk_alloc ?_ _)); refine blk_far ?_ NB152_160.out _; exact lb BK152.out) NB152_0.out (by simp)); have n1_ := Aside0.mk (KeepBut.blk hk (g' := gb160) (o := .cells #[.string t156, .string t157] 25 (0, 0)) (by (with_reducible repeat (first | refine blk_drewN ?_ _ | refine blk_drew ?_ | refine blk_alloc ?_ _)); refine blk_put (cs := #[.string t156, .string (⟨#[]⟩ : ByteArray)]) ?_ 1 _ rfl; (with_reducible repeat (first | refine blk_drewN ?_ _ | refine blk_drew ?_ | refine blk_alloc ?_ _)); refine blk_put (cs := #[.string (⟨#[]⟩ : ByteArray), .string (⟨#[]⟩ : ByteArray)]) ?_ 0 _ rfl; exact lb BK160.out) NB160_0.out (by simp)); have n2_ := Aside0.mk (KeepBut.trans (lK HK.out) hk (.inl rfl)); have n3_ := Aside0.mk (hb); have n4_ := Aside0.mk (hi); clear BK152 BK160 HK HB HI0; have BK152 := n0_; have BK160 := n1_; have HK := n2_; have HB := n3_; have HI0 := n4_; clear n0_ n1_ n2_ n3_ n4_; (try clear hb); (try clear hb2); (try clear hk); (try clear hi)) | ((with_reducible refine gate_callee (f := 47) rfl ?_); refine goesL_ (some 18) rfl rfl Tryz.func47 (by kernel_rfl) rfl #[.pointer (some ⟨g, 0, none⟩), .int .i64 a1] rfl lm ?_; (with_reducible refine (spec_l1Cur_tree.calls k g s0_0 t162 t163 a1 t164 t165 t166 w0 _ ?side1 ?side2 A7.out).mono ?_); (case side1 => exact lI48 HI0.out); (case side2 => exact lB HB.out); rintro e w16 ⟨rfl, hi, hb, hk⟩; refine ⟨_, rfl, ?_⟩; have n0_ := Aside0.mk (KeepBut.blk hk (g' := gb152) (o := .cells #[.string (⟨#[]⟩ : ByteArray), .string (⟨#[]⟩ : ByteArray)] 25 (0, 0)) (lb BK152.out) NB152_0.out (by simp)); have n1_ := Aside0.mk (KeepBut.blk hk (g' := gb160) (o := .cells #[.string t156, .string t157] 25 (0, 0)) (lb BK160.out) NB160_0.out (by simp)); have n2_ := Aside0.mk (KeepBut.trans (lK HK.out) hk (.inl rfl)); have n3_ := Aside0.mk (hb); have n4_ := Aside0.mk (hi); clear BK152 BK160 HK HB HI0; have BK152 := n0_; have BK160 := n1_; have HK := n2_; have HB := n3_; have HI0 := n4_; clear n0_ n1_ n2_ n3_ n4_; (try clear hb); (try clear hb2); (try clear hk); (try clear hi); have hcz17_0 : w16.cell? ⟨gb160, 0, none⟩ = some (.string t156) := (blk_cell BK160.out 0).trans rfl; have hcz17_1 : w16.cell? ⟨gb160, 1, none⟩ = some (.string t157) := (blk_cell BK160.out 1).trans rfl; have hfz17_0 := blk_frozen BK160.out 0; have hfz17_1 := blk_frozen BK160.out 1; have hnb18 := NB152_0.out; have hnc18 := NB0_152.out; have hcz19_0 : w16.cell? ⟨gb152, 0, none⟩ = some (.string (⟨#[]⟩ : ByteArray)) := (blk_cell BK152.out 0).trans rfl; have hcz19_1 : w16.cell? ⟨gb152, 1, none⟩ = some (.string (⟨#[]⟩ : ByteArray)) := (blk_cell BK152.out 1).trans rfl; have hfz19_0 := blk_frozen BK152.out 0; have hfz19_1 := blk_frozen BK152.out 1))
    refine bodyPost_ret (results_cell_row rfl _ _ gb152 25 #[.string t156, .string t164] (0, 0) _ rfl (by (with_reducible repeat (first | refine blk_drewN ?_ _ | refine blk_drew ?_ | refine blk_alloc ?_ _)); refine blk_put (cs := #[.string t156, .string (⟨#[]⟩ : ByteArray)]) ?_ 1 _ rfl; (with_reducible repeat (first | refine blk_drewN ?_ _ | refine blk_drew ?_ | refine blk_alloc ?_ _)); refine blk_put (cs := #[.string (⟨#[]⟩ : ByteArray), .string (⟨#[]⟩ : ByteArray)]) ?_ 0 _ rfl; (with_reducible repeat (first | refine blk_drewN ?_ _ | refine blk_drew ?_ | refine blk_alloc ?_ _)); refine blk_far ?_ NB152_160.out _; exact lb BK152.out) Tryz.underlying25 rfl (by kernel_rfl)) rfl ?_
    exact ⟨lx, by exact lI48 HI0.out, by exact lB HB.out, by exact lK HK.out⟩
  rw [if_neg c6] at H
  have c6b0 : (t161 == 0) = false := beq_eq_false_iff_ne.mpr c6
  have c6b1 : (t161 != 0) = true := bne_iff_ne.mpr c6
  by_cases c20 : t161 = 1
  · rw [if_pos c20] at H
    have c20b0 : (t161 == 1) = true := beq_iff_eq.mpr c20
    have c20b1 : (t161 != 1) = false := bne_eq_false_iff_eq.mpr c20
    clear c20
    replace H := Option.bind_eq_some_iff.mp H
    obtain ⟨⟨t167, t168, t169⟩, A210, H⟩ := H
    replace H : (some (t167, t157, t168, t169)) = some (r1, r2, r3, r4) := H
    have A21 := Aside0.mk A210
    clear A210
    simp only [Option.some.injEq, Prod.mk.injEq] at H
    obtain ⟨rfl, rfl, rfl, rfl⟩ := H
    go_enter Tryz.func19, Tryz.ntmps19
    go_wp2_with (first | ((with_reducible refine gate_dst (N := 4) rfl ?_); refine box_event ?hg (N := 4) ?hd (cs := #[.string (⟨#[]⟩ : ByteArray), .string (⟨#[]⟩ : ByteArray)]) (t := 25) ?hr ?_; (case hd => rfl); (case hg => rfl); (case hr => exact lr); intro gb152 hg w22 hbox hb; have n0_ := Aside0.mk (IsS48.below (lI48 HI0.out) hb); have n1_ := Aside0.mk (KeepBut.trans (lK HK.out) (KeepBut.of_below hb g none) (.inl rfl)); have n2_ := Aside0.mk (below_step (lB HB.out) hb); have n3_ := Aside0.mk (hbox); have n4_ := Aside0.mk ((by rw [hg]; exact (keep_size (w := w) (g := g) (row := none) (lK HK.out)) : w.heap.size ≤ gb152)); have n5_ := Aside0.mk ((Nat.le_trans HW0.out (by rw [hg]; exact (keep_size (w := w) (g := g) (row := none) (lK HK.out)) : w.heap.size ≤ gb152) : w0.heap.size ≤ gb152)); have n6_ := Aside0.mk ((by rw [hg]; exact Nat.ne_of_lt (IsS48.lt (show IsS48 w0 _ g s0_0 s0_1 s0_2 from by exact lI48 HI0.out)) : g ≠ gb152)); have n7_ := Aside0.mk ((by rw [hg]; exact Nat.ne_of_gt (IsS48.lt (show IsS48 w0 _ g s0_0 s0_1 s0_2 from by exact lI48 HI0.out)) : gb152 ≠ g)); clear HI0 HK HB; have HI0 := n0_; have HK := n1_; have HB := n2_; have BK152 := n3_; have GW152 := n4_; have GE152 := n5_; have NB0_152 := n6_; have NB152_0 := n7_; clear n0_ n1_ n2_ n3_ n4_ n5_ n6_ n7_; clear hb hbox hg) | ((with_reducible refine gate_callee (f := 39) rfl ?_); refine goesL_ (some 10) rfl rfl Tryz.func39 (by kernel_rfl) rfl #[.pointer (some ⟨g, 0, none⟩), .int .i64 (wrap64 (a1 + 1))] rfl lm ?_; (with_reducible refine (spec_l1Cur_pick.calls g s0_0 s0_1 s0_2 (wrap64 (a1 + 1)) t153 t154 t155 w0 _ ?side1 ?side2 A3.out).mono ?_); (case side1 => exact lI48 HI0.out); (case side2 => exact lB HB.out); rintro e w23 ⟨rfl, hi, hb, hk⟩; refine ⟨_, rfl, ?_⟩; have n0_ := Aside0.mk (KeepBut.blk hk (g' := gb152) (o := .cells #[.string (⟨#[]⟩ : ByteArray), .string (⟨#[]⟩ : ByteArray)] 25 (0, 0)) (lb BK152.out) NB152_0.out (by simp)); have n1_ := Aside0.mk (KeepBut.trans (lK HK.out) hk (.inl rfl)); have n2_ := Aside0.mk (hb); have n3_ := Aside0.mk (hi); clear BK152 HK HB HI0; have BK152 := n0_; have HK := n1_; have HB := n2_; have HI0 := n3_; clear n0_ n1_ n2_ n3_; (try clear hb); (try clear hb2); (try clear hk); (try clear hi)) | ((with_reducible refine gate_callee (f := 46) rfl ?_); refine goesL_ (some 11) rfl rfl Tryz.func46 (by kernel_rfl) rfl #[.pointer (some ⟨g, 0, none⟩), .int .i64 t153] rfl lm ?_; (with_reducible refine (spec_l1Cur_surePair.calls k g s0_0 t154 t155 t153 t156 t157 t158 t159 w0 _ ?side1 ?side2 A4.out).mono ?_); (case side1 => exact lI48 HI0.out); (case side2 => exact lB HB.out); rintro e w24 ⟨rfl, hi, hb, hk⟩; refine ⟨_, rfl, ?_⟩; have n0_ := Aside0.mk (KeepBut.blk hk (g' := gb152) (o := .cells #[.string (⟨#[]⟩ : ByteArray), .string (⟨#[]⟩ : ByteArray)] 25 (0, 0)) (lb BK152.out) NB152_0.out (by simp)); have n1_ := Aside0.mk (KeepBut.trans (lK HK.out) hk (.inl rfl)); have n2_ := Aside0.mk (hb); have n3_ := Aside0.mk (hi); clear BK152 HK HB HI0; have BK152 := n0_; have HK := n1_; have HB := n2_; have HI0 := n3_; clear n0_ n1_ n2_ n3_; (try clear hb); (try clear hb2); (try clear hk); (try clear hi)) | ((with_reducible refine gate_dst (N := 5) rfl ?_); refine box_event ?hg (N := 5) ?hd (cs := #[.string (⟨#[]⟩ : ByteArray), .string (⟨#[]⟩ : ByteArray)]) (t := 25) ?hr ?_; (case hd => rfl); (case hg => rfl); (case hr => exact lr); intro gb160 hg w25 hbox hb; have n0_ := Aside0.mk (IsS48.below (lI48 HI0.out) hb); have n1_ := Aside0.mk (blk_below (lb BK152.out) hb); have n2_ := Aside0.mk (KeepBut.trans (lK HK.out) (KeepBut.of_below hb g none) (.inl rfl)); have n3_ := Aside0.mk (below_step (lB HB.out) hb); have n4_ := Aside0.mk (hbox); have n5_ := Aside0.mk ((by rw [hg]; exact (keep_size (w := w) (g := g) (row := none) (lK HK.out)) : w.heap.size ≤ gb160)); have n6_ := Aside0.mk ((Nat.le_trans HW0.out (by rw [hg]; exact (keep_size (w := w) (g := g) (row := none) (lK HK.out)) : w.heap.size ≤ gb160) : w0.heap.size ≤ gb160)); have n7_ := na hg (lb BK152.out); have n8_ := nz hg (lb BK152.out); have n9_ := Aside0.mk ((by rw [hg]; exact Nat.ne_of_lt (IsS48.lt (show IsS48 w0 _ g s0_0 t158 t159 from by exact lI48 HI0.out)) : g ≠ gb160)); have n10_ := Aside0.mk ((by rw [hg]; exact Nat.ne_of_gt (IsS48.lt (show IsS48 w0 _ g s0_0 t158 t159 from by exact lI48 HI0.out)) : gb160 ≠ g)); clear HI0 BK152 HK HB; have HI0 := n0_; have BK152 := n1_; have HK := n2_; have HB := n3_; have BK160 := n4_; have GW160 := n5_; have GE160 := n6_; have NB152_160 := n7_; have NB160_152 := n8_; have NB0_160 := n9_; have NB160_0 := n10_; clear n0_ n1_ n2_ n3_ n4_ n5_ n6_ n7_ n8_ n9_ n10_; clear hb hbox hg; have hnb26 := NB160_152.out; have hnc26 := NB152_160.out; have hnb27 := NB160_0.out; have hnc27 := NB0_160.out; have hcz28_0 : w25.cell? ⟨gb160, 0, none⟩ = some (.string (⟨#[]⟩ : ByteArray)) := (blk_cell BK160.out 0).trans rfl; have hcz28_1 : w25.cell? ⟨gb160, 1, none⟩ = some (.string (⟨#[]⟩ : ByteArray)) := (blk_cell BK160.out 1).trans rfl; have hfz28_0 := blk_frozen BK160.out 0; have hfz28_1 := blk_frozen BK160.out 1) | ((with_reducible refine gate_callee (f := 39) rfl ?_); refine goesL_ (some 13) rfl rfl Tryz.func39 (by kernel_rfl) rfl #[.pointer (some ⟨g, 0, none⟩), .int .i64 14] rfl lm ?_; (with_reducible refine (spec_l1Cur_pick.calls g s0_0 t158 t159 14 t161 t162 t163 w0 _ ?side1 ?side2 A5.out).mono ?_); (case side1 => exact lI48 HI0.out); (case side2 => exact lB HB.out); rintro e w29 ⟨rfl, hi, hb, hk⟩; refine ⟨_, rfl, ?_⟩; have n0_ := Aside0.mk (KeepBut.blk hk (g' := gb152) (o := .cells #[.string (⟨#[]⟩ : ByteArray), .string (⟨#[]⟩ : ByteArray)] 25 (0, 0)) (by (with_reducible repeat (first | refine blk_drewN ?_ _ | refine blk_drew ?_ | refine blk_alloc ?_ _)); refine blk_far ?_ NB152_160.out _; (with_reducible repeat (first | refine blk_drewN ?_ _ | refine blk_drew ?_ | refine blk_alloc ?_ _)); refine blk_far ?_ NB152_160.out _; exact lb BK152.out) NB152_0.out (by simp)); have n1_ := Aside0.mk (KeepBut.blk hk (g' := gb160) (o := .cells #[.string t156, .string t157] 25 (0, 0)) (by (with_reducible repeat (first | refine blk_drewN ?_ _ | refine blk_drew ?_ | refine blk_alloc ?_ _)); refine blk_put (cs := #[.string t156, .string (⟨#[]⟩ : ByteArray)]) ?_ 1 _ rfl; (with_reducible repeat (first | refine blk_drewN ?_ _ | refine blk_drew ?_ | refine blk_alloc ?_ _)); refine blk_put (cs := #[.string (⟨#[]⟩ : ByteArray), .string (⟨#[]⟩ : ByteArray)]) ?_ 0 _ rfl; exact lb BK160.out) NB160_0.out (by simp)); have n2_ := Aside0.mk (KeepBut.trans (lK HK.out) hk (.inl rfl)); have n3_ := Aside0.mk (hb); have n4_ := Aside0.mk (hi); clear BK152 BK160 HK HB HI0; have BK152 := n0_; have BK160 := n1_; have HK := n2_; have HB := n3_; have HI0 := n4_; clear n0_ n1_ n2_ n3_ n4_; (try clear hb); (try clear hb2); (try clear hk); (try clear hi); have hcz30_0 : w29.cell? ⟨gb160, 0, none⟩ = some (.string t156) := (blk_cell BK160.out 0).trans rfl; have hcz30_1 : w29.cell? ⟨gb160, 1, none⟩ = some (.string t157) := (blk_cell BK160.out 1).trans rfl; have hfz30_0 := blk_frozen BK160.out 0; have hfz30_1 := blk_frozen BK160.out 1) | ((with_reducible refine gate_callee (f := 48) rfl ?_); refine goesL_ (some 25) rfl rfl Tryz.func48 (by kernel_rfl) rfl #[.pointer (some ⟨g, 0, none⟩), .string t156, .string (⟨#[40, 46, 41]⟩ : ByteArray)] rfl lm ?_; (with_reducible refine (spec_l1Cur_spoilt.calls k g s0_0 t162 t163 t156 (⟨#[40, 46, 41]⟩ : ByteArray) t167 t168 t169 w0 _ ?side1 ?side2 A21.out).mono ?_); (case side1 => exact lI48 HI0.out); (case side2 => exact lB HB.out); rintro e w31 ⟨rfl, hi, hb, hk⟩; refine ⟨_, rfl, ?_⟩; have n0_ := Aside0.mk (KeepBut.blk hk (g' := gb152) (o := .cells #[.string (⟨#[]⟩ : ByteArray), .string (⟨#[]⟩ : ByteArray)] 25 (0, 0)) (lb BK152.out) NB152_0.out (by simp)); have n1_ := Aside0.mk (KeepBut.blk hk (g' := gb160) (o := .cells #[.string t156, .string t157] 25 (0, 0)) (lb BK160.out) NB160_0.out (by simp)); have n2_ := Aside0.mk (KeepBut.trans (lK HK.out) hk (.inl rfl)); have n3_ := Aside0.mk (hb); have n4_ := Aside0.mk (hi); clear BK152 BK160 HK HB HI0; have BK152 := n0_; have BK160 := n1_; have HK := n2_; have HB := n3_; have HI0 := n4_; clear n0_ n1_ n2_ n3_ n4_; (try clear hb); (try clear hb2); (try clear hk); (try clear hi); have hcz32_0 : w31.cell? ⟨gb160, 0, none⟩ = some (.string t156) := (blk_cell BK160.out 0).trans rfl; have hcz32_1 : w31.cell? ⟨gb160, 1, none⟩ = some (.string t157) := (blk_cell BK160.out 1).trans rfl; have hfz32_0 := blk_frozen BK160.out 0; have hfz32_1 := blk_frozen BK160.out 1; have hnb33 := NB152_0.out; have hnc33 := NB0_152.out; have hcz34_0 : w31.cell? ⟨gb152, 0, none⟩ = some (.string (⟨#[]⟩ : ByteArray)) := (blk_cell BK152.out 0).trans rfl; have hcz34_1 : w31.cell? ⟨gb152, 1, none⟩ = some (.string (⟨#[]⟩ : ByteArray)) := (blk_cell BK152.out 1).trans rfl; have hfz34_0 := blk_frozen BK152.out 0; have hfz34_1 := blk_frozen BK152.out 1))
    refine bodyPost_ret (results_cell_row rfl _ _ gb152 25 #[.string t167, .string t157] (0, 0) _ rfl (by (with_reducible repeat (first | refine blk_drewN ?_ _ | refine blk_drew ?_ | refine blk_alloc ?_ _)); refine blk_put (cs := #[.string t167, .string (⟨#[]⟩ : ByteArray)]) ?_ 1 _ rfl; (with_reducible repeat (first | refine blk_drewN ?_ _ | refine blk_drew ?_ | refine blk_alloc ?_ _)); refine blk_put (cs := #[.string (⟨#[]⟩ : ByteArray), .string (⟨#[]⟩ : ByteArray)]) ?_ 0 _ rfl; (with_reducible repeat (first | refine blk_drewN ?_ _ | refine blk_drew ?_ | refine blk_alloc ?_ _)); refine blk_far ?_ NB152_160.out _; exact lb BK152.out) Tryz.underlying25 rfl (by kernel_rfl)) rfl ?_
    exact ⟨lx, by exact lI48 HI0.out, by exact lB HB.out, by exact lK HK.out⟩
  rw [if_neg c20] at H
  have c20b0 : (t161 == 1) = false := beq_eq_false_iff_ne.mpr c20
  have c20b1 : (t161 != 1) = true := bne_iff_ne.mpr c20
  by_cases c35 : t161 = 2
  · rw [if_pos c35] at H
    have c35b0 : (t161 == 2) = true := beq_iff_eq.mpr c35
    have c35b1 : (t161 != 2) = false := bne_eq_false_iff_eq.mpr c35
    clear c35
    replace H := Option.bind_eq_some_iff.mp H
    obtain ⟨⟨t170, t171, t172⟩, A360, H⟩ := H
    replace H : ((spec_l1Cur_surePair.f k s0_0 t171 t172 (wrap64 (8 + t170))).bind fun bt173 => (some (bt173.1, bt173.2.1, bt173.2.2.1, bt173.2.2.2))) = some (r1, r2, r3, r4) := H
    have A36 := Aside0.mk A360
    clear A360
    replace H := Option.bind_eq_some_iff.mp H
    obtain ⟨⟨t173, t174, t175, t176⟩, A370, H⟩ := H
    replace H : (some (t173, t174, t175, t176)) = some (r1, r2, r3, r4) := H
    have A37 := Aside0.mk A370
    clear A370
    simp only [Option.some.injEq, Prod.mk.injEq] at H
    obtain ⟨rfl, rfl, rfl, rfl⟩ := H
    go_enter Tryz.func19, Tryz.ntmps19
    go_wp2_with (first | ((with_reducible refine gate_dst (N := 4) rfl ?_); refine box_event ?hg (N := 4) ?hd (cs := #[.string (⟨#[]⟩ : ByteArray), .string (⟨#[]⟩ : ByteArray)]) (t := 25) ?hr ?_; (case hd => rfl); (case hg => rfl); (case hr => exact lr); intro gb152 hg w38 hbox hb; have n0_ := Aside0.mk (IsS48.below (lI48 HI0.out) hb); have n1_ := Aside0.mk (KeepBut.trans (lK HK.out) (KeepBut.of_below hb g none) (.inl rfl)); have n2_ := Aside0.mk (below_step (lB HB.out) hb); have n3_ := Aside0.mk (hbox); have n4_ := Aside0.mk ((by rw [hg]; exact (keep_size (w := w) (g := g) (row := none) (lK HK.out)) : w.heap.size ≤ gb152)); have n5_ := Aside0.mk ((Nat.le_trans HW0.out (by rw [hg]; exact (keep_size (w := w) (g := g) (row := none) (lK HK.out)) : w.heap.size ≤ gb152) : w0.heap.size ≤ gb152)); have n6_ := Aside0.mk ((by rw [hg]; exact Nat.ne_of_lt (IsS48.lt (show IsS48 w0 _ g s0_0 s0_1 s0_2 from by exact lI48 HI0.out)) : g ≠ gb152)); have n7_ := Aside0.mk ((by rw [hg]; exact Nat.ne_of_gt (IsS48.lt (show IsS48 w0 _ g s0_0 s0_1 s0_2 from by exact lI48 HI0.out)) : gb152 ≠ g)); clear HI0 HK HB; have HI0 := n0_; have HK := n1_; have HB := n2_; have BK152 := n3_; have GW152 := n4_; have GE152 := n5_; have NB0_152 := n6_; have NB152_0 := n7_; clear n0_ n1_ n2_ n3_ n4_ n5_ n6_ n7_; clear hb hbox hg) | ((with_reducible refine gate_callee (f := 39) rfl ?_); refine goesL_ (some 10) rfl rfl Tryz.func39 (by kernel_rfl) rfl #[.pointer (some ⟨g, 0, none⟩), .int .i64 (wrap64 (a1 + 1))] rfl lm ?_; (with_reducible refine (spec_l1Cur_pick.calls g s0_0 s0_1 s0_2 (wrap64 (a1 + 1)) t153 t154 t155 w0 _ ?side1 ?side2 A3.out).mono ?_); (case side1 => exact lI48 HI0.out); (case side2 => exact lB HB.out); rintro e w39 ⟨rfl, hi, hb, hk⟩; refine ⟨_, rfl, ?_⟩; have n0_ := Aside0.mk (KeepBut.blk hk (g' := gb152) (o := .cells #[.string (⟨#[]⟩ : ByteArray), .string (⟨#[]⟩ : ByteArray)] 25 (0, 0)) (lb BK152.out) NB152_0.out (by simp)); have n1_ := Aside0.mk (KeepBut.trans (lK HK.out) hk (.inl rfl)); have n2_ := Aside0.mk (hb); have n3_ := Aside0.mk (hi); clear BK152 HK HB HI0; have BK152 := n0_; have HK := n1_; have HB := n2_; have HI0 := n3_; clear n0_ n1_ n2_ n3_; (try clear hb); (try clear hb2); (try clear hk); (try clear hi)) | ((with_reducible refine gate_callee (f := 46) rfl ?_); refine goesL_ (some 11) rfl rfl Tryz.func46 (by kernel_rfl) rfl #[.pointer (some ⟨g, 0, none⟩), .int .i64 t153] rfl lm ?_; (with_reducible refine (spec_l1Cur_surePair.calls k g s0_0 t154 t155 t153 t156 t157 t158 t159 w0 _ ?side1 ?side2 A4.out).mono ?_); (case side1 => exact lI48 HI0.out); (case side2 => exact lB HB.out); rintro e w40 ⟨rfl, hi, hb, hk⟩; refine ⟨_, rfl, ?_⟩; have n0_ := Aside0.mk (KeepBut.blk hk (g' := gb152) (o := .cells #[.string (⟨#[]⟩ : ByteArray), .string (⟨#[]⟩ : ByteArray)] 25 (0, 0)) (lb BK152.out) NB152_0.out (by simp)); have n1_ := Aside0.mk (KeepBut.trans (lK HK.out) hk (.inl rfl)); have n2_ := Aside0.mk (hb); have n3_ := Aside0.mk (hi); clear BK152 HK HB HI0; have BK152 := n0_; have HK := n1_; have HB := n2_; have HI0 := n3_; clear n0_ n1_ n2_ n3_; (try clear hb); (try clear hb2); (try clear hk); (try clear hi)) | ((with_reducible refine gate_dst (N := 5) rfl ?_); refine box_event ?hg (N := 5) ?hd (cs := #[.string (⟨#[]⟩ : ByteArray), .string (⟨#[]⟩ : ByteArray)]) (t := 25) ?hr ?_; (case hd => rfl); (case hg => rfl); (case hr => exact lr); intro gb160 hg w41 hbox hb; have n0_ := Aside0.mk (IsS48.below (lI48 HI0.out) hb); have n1_ := Aside0.mk (blk_below (lb BK152.out) hb); have n2_ := Aside0.mk (KeepBut.trans (lK HK.out) (KeepBut.of_below hb g none) (.inl rfl)); have n3_ := Aside0.mk (below_step (lB HB.out) hb); have n4_ := Aside0.mk (hbox); have n5_ := Aside0.mk ((by rw [hg]; exact (keep_size (w := w) (g := g) (row := none) (lK HK.out)) : w.heap.size ≤ gb160)); have n6_ := Aside0.mk ((Nat.le_trans HW0.out (by rw [hg]; exact (keep_size (w := w) (g := g) (row := none) (lK HK.out)) : w.heap.size ≤ gb160) : w0.heap.size ≤ gb160)); have n7_ := na hg (lb BK152.out); have n8_ := nz hg (lb BK152.out); have n9_ := Aside0.mk ((by rw [hg]; exact Nat.ne_of_lt (IsS48.lt (show IsS48 w0 _ g s0_0 t158 t159 from by exact lI48 HI0.out)) : g ≠ gb160)); have n10_ := Aside0.mk ((by rw [hg]; exact Nat.ne_of_gt (IsS48.lt (show IsS48 w0 _ g s0_0 t158 t159 from by exact lI48 HI0.out)) : gb160 ≠ g)); clear HI0 BK152 HK HB; have HI0 := n0_; have BK152 := n1_; have HK := n2_; have HB := n3_; have BK160 := n4_; have GW160 := n5_; have GE160 := n6_; have NB152_160 := n7_; have NB160_152 := n8_; have NB0_160 := n9_; have NB160_0 := n10_; clear n0_ n1_ n2_ n3_ n4_ n5_ n6_ n7_ n8_ n9_ n10_; clear hb hbox hg; have hnb42 := NB160_152.out; have hnc42 := NB152_160.out; have hnb43 := NB160_0.out; have hnc43 := NB0_160.out; have hcz44_0 : w41.cell? ⟨gb160, 0, none⟩ = some (.string (⟨#[]⟩ : ByteArray)) := (blk_cell BK160.out 0).trans rfl; have hcz44_1 : w41.cell? ⟨gb160, 1, none⟩ = some (.string (⟨#[]⟩ : ByteArray)) := (blk_cell BK160.out 1).trans rfl; have hfz44_0 := blk_frozen BK160.out 0; have hfz44_1 := blk_frozen BK160.out 1) | ((with_reducible refine gate_callee (f := 39) rfl ?_); refine goesL_ (some 13) rfl rfl Tryz.func39 (by kernel_rfl) rfl #[.pointer (some ⟨g, 0, none⟩), .int .i64 14] rfl lm ?_; (with_reducible refine (spec_l1Cur_pick.calls g s0_0 t158 t159 14 t161 t162 t163 w0 _ ?side1 ?side2 A5.out).mono ?_); (case side1 => exact lI48 HI0.out); (case side2 => exact lB HB.out); rintro e w45 ⟨rfl, hi, hb, hk⟩; refine ⟨_, rfl, ?_⟩; have n0_ := Aside0.mk (KeepBut.blk hk (g' := gb152) (o := .cells #[.string (⟨#[]⟩ : ByteArray), .string (⟨#[]⟩ : ByteArray)] 25 (0, 0)) (by (with_reducible repeat (first | refine blk_drewN ?_ _ | refine blk_drew ?_ | refine blk_alloc ?_ _)); refine blk_far ?_ NB152_160.out _; (with_reducible repeat (first | refine blk_drewN ?_ _ | refine blk_drew ?_ | refine blk_alloc ?_ _)); refine blk_far ?_ NB152_160.out _; exact lb BK152.out) NB152_0.out (by simp)); have n1_ := Aside0.mk (KeepBut.blk hk (g' := gb160) (o := .cells #[.string t156, .string t157] 25 (0, 0)) (by (with_reducible repeat (first | refine blk_drewN ?_ _ | refine blk_drew ?_ | refine blk_alloc ?_ _)); refine blk_put (cs := #[.string t156, .string (⟨#[]⟩ : ByteArray)]) ?_ 1 _ rfl; (with_reducible repeat (first | refine blk_drewN ?_ _ | refine blk_drew ?_ | refine blk_alloc ?_ _)); refine blk_put (cs := #[.string (⟨#[]⟩ : ByteArray), .string (⟨#[]⟩ : ByteArray)]) ?_ 0 _ rfl; exact lb BK160.out) NB160_0.out (by simp)); have n2_ := Aside0.mk (KeepBut.trans (lK HK.out) hk (.inl rfl)); have n3_ := Aside0.mk (hb); have n4_ := Aside0.mk (hi); clear BK152 BK160 HK HB HI0; have BK152 := n0_; have BK160 := n1_; have HK := n2_; have HB := n3_; have HI0 := n4_; clear n0_ n1_ n2_ n3_ n4_; (try clear hb); (try clear hb2); (try clear hk); (try clear hi)) | ((with_reducible refine gate_callee (f := 39) rfl ?_); refine goesL_ (some 31) rfl rfl Tryz.func39 (by kernel_rfl) rfl #[.pointer (some ⟨g, 0, none⟩), .int .i64 2] rfl lm ?_; (with_reducible refine (spec_l1Cur_pick.calls g s0_0 t162 t163 2 t170 t171 t172 w0 _ ?side1 ?side2 A36.out).mono ?_); (case side1 => exact lI48 HI0.out); (case side2 => exact lB HB.out); rintro e w46 ⟨rfl, hi, hb, hk⟩; refine ⟨_, rfl, ?_⟩; have n0_ := Aside0.mk (KeepBut.blk hk (g' := gb152) (o := .cells #[.string (⟨#[]⟩ : ByteArray), .string (⟨#[]⟩ : ByteArray)] 25 (0, 0)) (lb BK152.out) NB152_0.out (by simp)); have n1_ := Aside0.mk (KeepBut.blk hk (g' := gb160) (o := .cells #[.string t156, .string t157] 25 (0, 0)) (lb BK160.out) NB160_0.out (by simp)); have n2_ := Aside0.mk (KeepBut.trans (lK HK.out) hk (.inl rfl)); have n3_ := Aside0.mk (hb); have n4_ := Aside0.mk (hi); clear BK152 BK160 HK HB HI0; have BK152 := n0_; have BK160 := n1_; have HK := n2_; have HB := n3_; have HI0 := n4_; clear n0_ n1_ n2_ n3_ n4_; (try clear hb); (try clear hb2); (try clear hk); (try clear hi)) | ((with_reducible refine gate_callee (f := 46) rfl ?_); refine goesL_ (some 33) rfl rfl Tryz.func46 (by kernel_rfl) rfl #[.pointer (some ⟨g, 0, none⟩), .int .i64 (wrap64 (8 + t170))] rfl lm ?_; (with_reducible refine (spec_l1Cur_surePair.calls k g s0_0 t171 t172 (wrap64 (8 + t170)) t173 t174 t175 t176 w0 _ ?side1 ?side2 A37.out).mono ?_); (case side1 => exact lI48 HI0.out); (case side2 => exact lB HB.out); rintro e w47 ⟨rfl, hi, hb, hk⟩; refine ⟨_, rfl, ?_⟩; have n0_ := Aside0.mk (KeepBut.blk hk (g' := gb152) (o := .cells #[.string (⟨#[]⟩ : ByteArray), .string (⟨#[]⟩ : ByteArray)] 25 (0, 0)) (lb BK152.out) NB152_0.out (by simp)); have n1_ := Aside0.mk (KeepBut.blk hk (g' := gb160) (o := .cells #[.string t156, .string t157] 25 (0, 0)) (lb BK160.out) NB160_0.out (by simp)); have n2_ := Aside0.mk (KeepBut.trans (lK HK.out) hk (.inl rfl)); have n3_ := Aside0.mk (hb); have n4_ := Aside0.mk (hi); clear BK152 BK160 HK HB HI0; have BK152 := n0_; have BK160 := n1_; have HK := n2_; have HB := n3_; have HI0 := n4_; clear n0_ n1_ n2_ n3_ n4_; (try clear hb); (try clear hb2); (try clear hk); (try clear hi); have hcz48_0 : w47.cell? ⟨gb160, 0, none⟩ = some (.string t156) := (blk_cell BK160.out 0).trans rfl; have hcz48_1 : w47.cell? ⟨gb160, 1, none⟩ = some (.string t157) := (blk_cell BK160.out 1).trans rfl; have hfz48_0 := blk_frozen BK160.out 0; have hfz48_1 := blk_frozen BK160.out 1; have hnb49 := NB152_0.out; have hnc49 := NB0_152.out; have hcz50_0 : w47.cell? ⟨gb152, 0, none⟩ = some (.string (⟨#[]⟩ : ByteArray)) := (blk_cell BK152.out 0).trans rfl; have hcz50_1 : w47.cell? ⟨gb152, 1, none⟩ = some (.string (⟨#[]⟩ : ByteArray)) := (blk_cell BK152.out 1).trans rfl; have hfz50_0 := blk_frozen BK152.out 0; have hfz50_1 := blk_frozen BK152.out 1))
    refine bodyPost_ret (results_cell_row rfl _ _ gb152 25 #[.string t173, .string t174] (0, 0) _ rfl (by (with_reducible repeat (first | refine blk_drewN ?_ _ | refine blk_drew ?_ | refine blk_alloc ?_ _)); refine blk_put (cs := #[.string t173, .string (⟨#[]⟩ : ByteArray)]) ?_ 1 _ rfl; (with_reducible repeat (first | refine blk_drewN ?_ _ | refine blk_drew ?_ | refine blk_alloc ?_ _)); refine blk_put (cs := #[.string (⟨#[]⟩ : ByteArray), .string (⟨#[]⟩ : ByteArray)]) ?_ 0 _ rfl; (with_reducible repeat (first | refine blk_drewN ?_ _ | refine blk_drew ?_ | refine blk_alloc ?_ _)); refine blk_far ?_ NB152_160.out _; (with_reducible repeat (first | refine blk_drewN ?_ _ | refine blk_drew ?_ | refine blk_alloc ?_ _)); refine blk_far ?_ NB152_160.out _; exact lb BK152.out) Tryz.underlying25 rfl (by kernel_rfl)) rfl ?_
    exact ⟨lx, by exact lI48 HI0.out, by exact lB HB.out, by exact lK HK.out⟩
  rw [if_neg c35] at H
  have c35b0 : (t161 == 2) = false := beq_eq_false_iff_ne.mpr c35
  have c35b1 : (t161 != 2) = true := bne_iff_ne.mpr c35
  by_cases c51 : t161 = 3
  rotate_left
  · rw [if_neg c51] at H
    have c51b0 : (t161 == 3) = false := beq_eq_false_iff_ne.mpr c51
    have c51b1 : (t161 != 3) = true := bne_iff_ne.mpr c51
    simp only [Option.some.injEq, Prod.mk.injEq] at H
    obtain ⟨rfl, rfl, rfl, rfl⟩ := H
    go_enter Tryz.func19, Tryz.ntmps19
    go_wp2_with (first | ((with_reducible refine gate_dst (N := 4) rfl ?_); refine box_event ?hg (N := 4) ?hd (cs := #[.string (⟨#[]⟩ : ByteArray), .string (⟨#[]⟩ : ByteArray)]) (t := 25) ?hr ?_; (case hd => rfl); (case hg => rfl); (case hr => exact lr); intro gb152 hg w67 hbox hb; have n0_ := Aside0.mk (IsS48.below (lI48 HI0.out) hb); have n1_ := Aside0.mk (KeepBut.trans (lK HK.out) (KeepBut.of_below hb g none) (.inl rfl)); have n2_ := Aside0.mk (below_step (lB HB.out) hb); have n3_ := Aside0.mk (hbox); have n4_ := Aside0.mk ((by rw [hg]; exact (keep_size (w := w) (g := g) (row := none) (lK HK.out)) : w.heap.size ≤ gb152)); have n5_ := Aside0.mk ((Nat.le_trans HW0.out (by rw [hg]; exact (keep_size (w := w) (g := g) (row := none) (lK HK.out)) : w.heap.size ≤ gb152) : w0.heap.size ≤ gb152)); have n6_ := Aside0.mk ((by rw [hg]; exact Nat.ne_of_lt (IsS48.lt (show IsS48 w0 _ g s0_0 s0_1 s0_2 from by exact lI48 HI0.out)) : g ≠ gb152)); have n7_ := Aside0.mk ((by rw [hg]; exact Nat.ne_of_gt (IsS48.lt (show IsS48 w0 _ g s0_0 s0_1 s0_2 from by exact lI48 HI0.out)) : gb152 ≠ g)); clear HI0 HK HB; have HI0 := n0_; have HK := n1_; have HB := n2_; have BK152 := n3_; have GW152 := n4_; have GE152 := n5_; have NB0_152 := n6_; have NB152_0 := n7_; clear n0_ n1_ n2_ n3_ n4_ n5_ n6_ n7_; clear hb hbox hg) | ((with_reducible refine gate_callee (f := 39) rfl ?_); refine goesL_ (some 10) rfl rfl Tryz.func39 (by kernel_rfl) rfl #[.pointer (some ⟨g, 0, none⟩), .int .i64 (wrap64 (a1 + 1))] rfl lm ?_; (with_reducible refine (spec_l1Cur_pick.calls g s0_0 s0_1 s0_2 (wrap64 (a1 + 1)) t153 t154 t155 w0 _ ?side1 ?side2 A3.out).mono ?_); (case side1 => exact lI48 HI0.out); (case side2 => exact lB HB.out); rintro e w68 ⟨rfl, hi, hb, hk⟩; refine ⟨_, rfl, ?_⟩; have n0_ := Aside0.mk (KeepBut.blk hk (g' := gb152) (o := .cells #[.string (⟨#[]⟩ : ByteArray), .string (⟨#[]⟩ : ByteArray)] 25 (0, 0)) (lb BK152.out) NB152_0.out (by simp)); have n1_ := Aside0.mk (KeepBut.trans (lK HK.out) hk (.inl rfl)); have n2_ := Aside0.mk (hb); have n3_ := Aside0.mk (hi); clear BK152 HK HB HI0; have BK152 := n0_; have HK := n1_; have HB := n2_; have HI0 := n3_; clear n0_ n1_ n2_ n3_; (try clear hb); (try clear hb2); (try clear hk); (try clear hi)) | ((with_reducible refine gate_callee (f := 46) rfl ?_); refine goesL_ (some 11) rfl rfl Tryz.func46 (by kernel_rfl) rfl #[.pointer (some ⟨g, 0, none⟩), .int .i64 t153] rfl lm ?_; (with_reducible refine (spec_l1Cur_surePair.calls k g s0_0 t154 t155 t153 t156 t157 t158 t159 w0 _ ?side1 ?side2 A4.out).mono ?_); (case side1 => exact lI48 HI0.out); (case side2 => exact lB HB.out); rintro e w69 ⟨rfl, hi, hb, hk⟩; refine ⟨_, rfl, ?_⟩; have n0_ := Aside0.mk (KeepBut.blk hk (g' := gb152) (o := .cells #[.string (⟨#[]⟩ : ByteArray), .string (⟨#[]⟩ : ByteArray)] 25 (0, 0)) (lb BK152.out) NB152_0.out (by simp)); have n1_ := Aside0.mk (KeepBut.trans (lK HK.out) hk (.inl rfl)); have n2_ := Aside0.mk (hb); have n3_ := Aside0.mk (hi); clear BK152 HK HB HI0; have BK152 := n0_; have HK := n1_; have HB := n2_; have HI0 := n3_; clear n0_ n1_ n2_ n3_; (try clear hb); (try clear hb2); (try clear hk); (try clear hi)) | ((with_reducible refine gate_dst (N := 5) rfl ?_); refine box_event ?hg (N := 5) ?hd (cs := #[.string (⟨#[]⟩ : ByteArray), .string (⟨#[]⟩ : ByteArray)]) (t := 25) ?hr ?_; (case hd => rfl); (case hg => rfl); (case hr => exact lr); intro gb160 hg w70 hbox hb; have n0_ := Aside0.mk (IsS48.below (lI48 HI0.out) hb); have n1_ := Aside0.mk (blk_below (lb BK152.out) hb); have n2_ := Aside0.mk (KeepBut.trans (lK HK.out) (KeepBut.of_below hb g none) (.inl rfl)); have n3_ := Aside0.mk (below_step (lB HB.out) hb); have n4_ := Aside0.mk (hbox); have n5_ := Aside0.mk ((by rw [hg]; exact (keep_size (w := w) (g := g) (row := none) (lK HK.out)) : w.heap.size ≤ gb160)); have n6_ := Aside0.mk ((Nat.le_trans HW0.out (by rw [hg]; exact (keep_size (w := w) (g := g) (row := none) (lK HK.out)) : w.heap.size ≤ gb160) : w0.heap.size ≤ gb160)); have n7_ := na hg (lb BK152.out); have n8_ := nz hg (lb BK152.out); have n9_ := Aside0.mk ((by rw [hg]; exact Nat.ne_of_lt (IsS48.lt (show IsS48 w0 _ g s0_0 t158 t159 from by exact lI48 HI0.out)) : g ≠ gb160)); have n10_ := Aside0.mk ((by rw [hg]; exact Nat.ne_of_gt (IsS48.lt (show IsS48 w0 _ g s0_0 t158 t159 from by exact lI48 HI0.out)) : gb160 ≠ g)); clear HI0 BK152 HK HB; have HI0 := n0_; have BK152 := n1_; have HK := n2_; have HB := n3_; have BK160 := n4_; have GW160 := n5_; have GE160 := n6_; have NB152_160 := n7_; have NB160_152 := n8_; have NB0_160 := n9_; have NB160_0 := n10_; clear n0_ n1_ n2_ n3_ n4_ n5_ n6_ n7_ n8_ n9_ n10_; clear hb hbox hg; have hnb71 := NB160_152.out; have hnc71 := NB152_160.out; have hnb72 := NB160_0.out; have hnc72 := NB0_160.out; have hcz73_0 : w70.cell? ⟨gb160, 0, none⟩ = some (.string (⟨#[]⟩ : ByteArray)) := (blk_cell BK160.out 0).trans rfl; have hcz73_1 : w70.cell? ⟨gb160, 1, none⟩ = some (.string (⟨#[]⟩ : ByteArray)) := (blk_cell BK160.out 1).trans rfl; have hfz73_0 := blk_frozen BK160.out 0; have hfz73_1 := blk_frozen BK160.out 1) | ((with_reducible refine gate_callee (f := 39) rfl ?_); refine goesL_ (some 13) rfl rfl Tryz.func39 (by kernel_rfl) rfl #[.pointer (some ⟨g, 0, none⟩), .int .i64 14] rfl lm ?_; (with_reducible refine (spec_l1Cur_pick.calls g s0_0 t158 t159 14 t161 t162 t163 w0 _ ?side1 ?side2 A5.out).mono ?_); (case side1 => exact lI48 HI0.out); (case side2 => exact lB HB.out); rintro e w74 ⟨rfl, hi, hb, hk⟩; refine ⟨_, rfl, ?_⟩; have n0_ := Aside0.mk (KeepBut.blk hk (g' := gb152) (o := .cells #[.string (⟨#[]⟩ : ByteArray), .string (⟨#[]⟩ : ByteArray)] 25 (0, 0)) (by (with_reducible repeat (first | refine blk_drewN ?_ _ | refine blk_drew ?_ | refine blk_alloc ?_ _)); refine blk_far ?_ NB152_160.out _; (with_reducible repeat (first | refine blk_drewN ?_ _ | refine blk_drew ?_ | refine blk_alloc ?_ _)); refine blk_far ?_ NB152_160.out _; exact lb BK152.out) NB152_0.out (by simp)); have n1_ := Aside0.mk (KeepBut.blk hk (g' := gb160) (o := .cells #[.string t156, .string t157] 25 (0, 0)) (by (with_reducible repeat (first | refine blk_drewN ?_ _ | refine blk_drew ?_ | refine blk_alloc ?_ _)); refine blk_put (cs := #[.string t156, .string (⟨#[]⟩ : ByteArray)]) ?_ 1 _ rfl; (with_reducible repeat (first | refine blk_drewN ?_ _ | refine blk_drew ?_ | refine blk_alloc ?_ _)); refine blk_put (cs := #[.string (⟨#[]⟩ : ByteArray), .string (⟨#[]⟩ : ByteArray)]) ?_ 0 _ rfl; exact lb BK160.out) NB160_0.out (by simp)); have n2_ := Aside0.mk (KeepBut.trans (lK HK.out) hk (.inl rfl)); have n3_ := Aside0.mk (hb); have n4_ := Aside0.mk (hi); clear BK152 BK160 HK HB HI0; have BK152 := n0_; have BK160 := n1_; have HK := n2_; have HB := n3_; have HI0 := n4_; clear n0_ n1_ n2_ n3_ n4_; (try clear hb); (try clear hb2); (try clear hk); (try clear hi); have hcz75_0 : w74.cell? ⟨gb160, 0, none⟩ = some (.string t156) := (blk_cell BK160.out 0).trans rfl; have hcz75_1 : w74.cell? ⟨gb160, 1, none⟩ = some (.string t157) := (blk_cell BK160.out 1).trans rfl; have hfz75_0 := blk_frozen BK160.out 0; have hfz75_1 := blk_frozen BK160.out 1; have hnb76 := NB152_0.out; have hnc76 := NB0_152.out; have hcz77_0 : w74.cell? ⟨gb152, 0, none⟩ = some (.string (⟨#[]⟩ : ByteArray)) := (blk_cell BK152.out 0).trans rfl; have hcz77_1 : w74.cell? ⟨gb152, 1, none⟩ = some (.string (⟨#[]⟩ : ByteArray)) := (blk_cell BK152.out 1).trans rfl; have hfz77_0 := blk_frozen BK152.out 0; have hfz77_1 := blk_frozen BK152.out 1))
    refine bodyPost_ret (results_cell_row rfl _ _ gb152 25 #[.string t156, .string t157] (0, 0) _ rfl (by (with_reducible repeat (first | refine blk_drewN ?_ _ | refine blk_drew ?_ | refine blk_alloc ?_ _)); refine blk_put (cs := #[.string t156, .string (⟨#[]⟩ : ByteArray)]) ?_ 1 _ rfl; (with_reducible repeat (first | refine blk_drewN ?_ _ | refine blk_drew ?_ | refine blk_alloc ?_ _)); refine blk_put (cs := #[.string (⟨#[]⟩ : ByteArray), .string (⟨#[]⟩ : ByteArray)]) ?_ 0 _ rfl; exact lb BK152.out) Tryz.underlying25 rfl (by kernel_rfl)) rfl ?_
    exact ⟨lx, by exact lI48 HI0.out, by exact lB HB.out, by exact lK HK.out⟩

  rw [if_pos c51] at H
  have c51b0 : (t161 == 3) = true := beq_iff_eq.mpr c51
  have c51b1 : (t161 != 3) = false := bne_eq_false_iff_eq.mpr c51
  clear c51
  replace H := Option.bind_eq_some_iff.mp H
  obtain ⟨⟨t177, t178, t179⟩, A520, H⟩ := H
  replace H : ((spec_prGenerator.f t177).bind fun bt180 => (some (bt180.1, bt180.2, t178, t179))) = some (r1, r2, r3, r4) := H
  have A52 := Aside0.mk A520
  clear A520
  replace H := Option.bind_eq_some_iff.mp H
  obtain ⟨⟨t180, t181⟩, A530, H⟩ := H
  replace H : (some (t180, t181, t178, t179)) = some (r1, r2, r3, r4) := H
  have A53 := Aside0.mk A530
  clear A530
  simp only [Option.some.injEq, Prod.mk.injEq] at H
  obtain ⟨rfl, rfl, rfl, rfl⟩ := H
  go_enter Tryz.func19, Tryz.ntmps19
  go_wp2_with (first | ((with_reducible refine gate_dst (N := 4) rfl ?_); refine box_event ?hg (N := 4) ?hd (cs := #[.string (⟨#[]⟩ : ByteArray), .string (⟨#[]⟩ : ByteArray)]) (t := 25) ?hr ?_; (case hd => rfl); (case hg => rfl); (case hr => exact lr); intro gb152 hg w54 hbox hb; have n0_ := Aside0.mk (IsS48.below (lI48 HI0.out) hb); have n1_ := Aside0.mk (KeepBut.trans (lK HK.out) (KeepBut.of_below hb g none) (.inl rfl)); have n2_ := Aside0.mk (below_step (lB HB.out) hb); have n3_ := Aside0.mk (hbox); have n4_ := Aside0.mk ((by rw [hg]; exact (keep_size (w := w) (g := g) (row := none) (lK HK.out)) : w.heap.size ≤ gb152)); have n5_ := Aside0.mk ((Nat.le_trans HW0.out (by rw [hg]; exact (keep_size (w := w) (g := g) (row := none) (lK HK.out)) : w.heap.size ≤ gb152) : w0.heap.size ≤ gb152)); have n6_ := Aside0.mk ((by rw [hg]; exact Nat.ne_of_lt (IsS48.lt (show IsS48 w0 _ g s0_0 s0_1 s0_2 from by exact lI48 HI0.out)) : g ≠ gb152)); have n7_ := Aside0.mk ((by rw [hg]; exact Nat.ne_of_gt (IsS48.lt (show IsS48 w0 _ g s0_0 s0_1 s0_2 from by exact lI48 HI0.out)) : gb152 ≠ g)); clear HI0 HK HB; have HI0 := n0_; have HK := n1_; have HB := n2_; have BK152 := n3_; have GW152 := n4_; have GE152 := n5_; have NB0_152 := n6_; have NB152_0 := n7_; clear n0_ n1_ n2_ n3_ n4_ n5_ n6_ n7_; clear hb hbox hg) | ((with_reducible refine gate_callee (f := 39) rfl ?_); refine goesL_ (some 10) rfl rfl Tryz.func39 (by kernel_rfl) rfl #[.pointer (some ⟨g, 0, none⟩), .int .i64 (wrap64 (a1 + 1))] rfl lm ?_; (with_reducible refine (spec_l1Cur_pick.calls g s0_0 s0_1 s0_2 (wrap64 (a1 + 1)) t153 t154 t155 w0 _ ?side1 ?side2 A3.out).mono ?_); (case side1 => exact lI48 HI0.out); (case side2 => exact lB HB.out); rintro e w55 ⟨rfl, hi, hb, hk⟩; refine ⟨_, rfl, ?_⟩; have n0_ := Aside0.mk (KeepBut.blk hk (g' := gb152) (o := .cells #[.string (⟨#[]⟩ : ByteArray), .string (⟨#[]⟩ : ByteArray)] 25 (0, 0)) (lb BK152.out) NB152_0.out (by simp)); have n1_ := Aside0.mk (KeepBut.trans (lK HK.out) hk (.inl rfl)); have n2_ := Aside0.mk (hb); have n3_ := Aside0.mk (hi); clear BK152 HK HB HI0; have BK152 := n0_; have HK := n1_; have HB := n2_; have HI0 := n3_; clear n0_ n1_ n2_ n3_; (try clear hb); (try clear hb2); (try clear hk); (try clear hi)) | ((with_reducible refine gate_callee (f := 46) rfl ?_); refine goesL_ (some 11) rfl rfl Tryz.func46 (by kernel_rfl) rfl #[.pointer (some ⟨g, 0, none⟩), .int .i64 t153] rfl lm ?_; (with_reducible refine (spec_l1Cur_surePair.calls k g s0_0 t154 t155 t153 t156 t157 t158 t159 w0 _ ?side1 ?side2 A4.out).mono ?_); (case side1 => exact lI48 HI0.out); (case side2 => exact lB HB.out); rintro e w56 ⟨rfl, hi, hb, hk⟩; refine ⟨_, rfl, ?_⟩; have n0_ := Aside0.mk (KeepBut.blk hk (g' := gb152) (o := .cells #[.string (⟨#[]⟩ : ByteArray), .string (⟨#[]⟩ : ByteArray)] 25 (0, 0)) (lb BK152.out) NB152_0.out (by simp)); have n1_ := Aside0.mk (KeepBut.trans (lK HK.out) hk (.inl rfl)); have n2_ := Aside0.mk (hb); have n3_ := Aside0.mk (hi); clear BK152 HK HB HI0; have BK152 := n0_; have HK := n1_; have HB := n2_; have HI0 := n3_; clear n0_ n1_ n2_ n3_; (try clear hb); (try clear hb2); (try clear hk); (try clear hi)) | ((with_reducible refine gate_dst (N := 5) rfl ?_); refine box_event ?hg (N := 5) ?hd (cs := #[.string (⟨#[]⟩ : ByteArray), .string (⟨#[]⟩ : ByteArray)]) (t := 25) ?hr ?_; (case hd => rfl); (case hg => rfl); (case hr => exact lr); intro gb160 hg w57 hbox hb; have n0_ := Aside0.mk (IsS48.below (lI48 HI0.out) hb); have n1_ := Aside0.mk (blk_below (lb BK152.out) hb); have n2_ := Aside0.mk (KeepBut.trans (lK HK.out) (KeepBut.of_below hb g none) (.inl rfl)); have n3_ := Aside0.mk (below_step (lB HB.out) hb); have n4_ := Aside0.mk (hbox); have n5_ := Aside0.mk ((by rw [hg]; exact (keep_size (w := w) (g := g) (row := none) (lK HK.out)) : w.heap.size ≤ gb160)); have n6_ := Aside0.mk ((Nat.le_trans HW0.out (by rw [hg]; exact (keep_size (w := w) (g := g) (row := none) (lK HK.out)) : w.heap.size ≤ gb160) : w0.heap.size ≤ gb160)); have n7_ := na hg (lb BK152.out); have n8_ := nz hg (lb BK152.out); have n9_ := Aside0.mk ((by rw [hg]; exact Nat.ne_of_lt (IsS48.lt (show IsS48 w0 _ g s0_0 t158 t159 from by exact lI48 HI0.out)) : g ≠ gb160)); have n10_ := Aside0.mk ((by rw [hg]; exact Nat.ne_of_gt (IsS48.lt (show IsS48 w0 _ g s0_0 t158 t159 from by exact lI48 HI0.out)) : gb160 ≠ g)); clear HI0 BK152 HK HB; have HI0 := n0_; have BK152 := n1_; have HK := n2_; have HB := n3_; have BK160 := n4_; have GW160 := n5_; have GE160 := n6_; have NB152_160 := n7_; have NB160_152 := n8_; have NB0_160 := n9_; have NB160_0 := n10_; clear n0_ n1_ n2_ n3_ n4_ n5_ n6_ n7_ n8_ n9_ n10_; clear hb hbox hg; have hnb58 := NB160_152.out; have hnc58 := NB152_160.out; have hnb59 := NB160_0.out; have hnc59 := NB0_160.out; have hcz60_0 : w57.cell? ⟨gb160, 0, none⟩ = some (.string (⟨#[]⟩ : ByteArray)) := (blk_cell BK160.out 0).trans rfl; have hcz60_1 : w57.cell? ⟨gb160, 1, none⟩ = some (.string (⟨#[]⟩ : ByteArray)) := (blk_cell BK160.out 1).trans rfl; have hfz60_0 := blk_frozen BK160.out 0; have hfz60_1 := blk_frozen BK160.out 1) | ((with_reducible refine gate_callee (f := 39) rfl ?_); refine goesL_ (some 13) rfl rfl Tryz.func39 (by kernel_rfl) rfl #[.pointer (some ⟨g, 0, none⟩), .int .i64 14] rfl lm ?_; (with_reducible refine (spec_l1Cur_pick.calls g s0_0 t158 t159 14 t161 t162 t163 w0 _ ?side1 ?side2 A5.out).mono ?_); (case side1 => exact lI48 HI0.out); (case side2 => exact lB HB.out); rintro e w61 ⟨rfl, hi, hb, hk⟩; refine ⟨_, rfl, ?_⟩; have n0_ := Aside0.mk (KeepBut.blk hk (g' := gb152) (o := .cells #[.string (⟨#[]⟩ : ByteArray), .string (⟨#[]⟩ : ByteArray)] 25 (0, 0)) (by (with_reducible repeat (first | refine blk_drewN ?_ _ | refine blk_drew ?_ | refine blk_alloc ?_ _)); refine blk_far ?_ NB152_160.out _; (with_reducible repeat (first | refine blk_drewN ?_ _ | refine blk_drew ?_ | refine blk_alloc ?_ _)); refine blk_far ?_ NB152_160.out _; exact lb BK152.out) NB152_0.out (by simp)); have n1_ := Aside0.mk (KeepBut.blk hk (g' := gb160) (o := .cells #[.string t156, .string t157] 25 (0, 0)) (by (with_reducible repeat (first | refine blk_drewN ?_ _ | refine blk_drew ?_ | refine blk_alloc ?_ _)); refine blk_put (cs := #[.string t156, .string (⟨#[]⟩ : ByteArray)]) ?_ 1 _ rfl; (with_reducible repeat (first | refine blk_drewN ?_ _ | refine blk_drew ?_ | refine blk_alloc ?_ _)); refine blk_put (cs := #[.string (⟨#[]⟩ : ByteArray), .string (⟨#[]⟩ : ByteArray)]) ?_ 0 _ rfl; exact lb BK160.out) NB160_0.out (by simp)); have n2_ := Aside0.mk (KeepBut.trans (lK HK.out) hk (.inl rfl)); have n3_ := Aside0.mk (hb); have n4_ := Aside0.mk (hi); clear BK152 BK160 HK HB HI0; have BK152 := n0_; have BK160 := n1_; have HK := n2_; have HB := n3_; have HI0 := n4_; clear n0_ n1_ n2_ n3_ n4_; (try clear hb); (try clear hb2); (try clear hk); (try clear hi)) | ((with_reducible refine gate_callee (f := 39) rfl ?_); refine goesL_ (some 37) rfl rfl Tryz.func39 (by kernel_rfl) rfl #[.pointer (some ⟨g, 0, none⟩), .int .i64 4] rfl lm ?_; (with_reducible refine (spec_l1Cur_pick.calls g s0_0 t162 t163 4 t177 t178 t179 w0 _ ?side1 ?side2 A52.out).mono ?_); (case side1 => exact lI48 HI0.out); (case side2 => exact lB HB.out); rintro e w62 ⟨rfl, hi, hb, hk⟩; refine ⟨_, rfl, ?_⟩; have n0_ := Aside0.mk (KeepBut.blk hk (g' := gb152) (o := .cells #[.string (⟨#[]⟩ : ByteArray), .string (⟨#[]⟩ : ByteArray)] 25 (0, 0)) (lb BK152.out) NB152_0.out (by simp)); have n1_ := Aside0.mk (KeepBut.blk hk (g' := gb160) (o := .cells #[.string t156, .string t157] 25 (0, 0)) (lb BK160.out) NB160_0.out (by simp)); have n2_ := Aside0.mk (KeepBut.trans (lK HK.out) hk (.inl rfl)); have n3_ := Aside0.mk (hb); have n4_ := Aside0.mk (hi); clear BK152 BK160 HK HB HI0; have BK152 := n0_; have BK160 := n1_; have HK := n2_; have HB := n3_; have HI0 := n4_; clear n0_ n1_ n2_ n3_ n4_; (try clear hb); (try clear hb2); (try clear hk); (try clear hi)) | ((with_reducible refine gate_callee (f := 49) rfl ?_); refine goesL_ (some 38) rfl rfl Tryz.func49 (by kernel_rfl) rfl #[.int .i64 t177] rfl lm ?_; (with_reducible refine (spec_prGenerator.calls t177 t180 t181 _ A53.out).mono ?_); rintro e w63 ⟨rfl, hb⟩; refine ⟨_, rfl, ?_⟩; have n0_ := Aside0.mk (IsS48.below (lI48 HI0.out) hb); have n1_ := Aside0.mk (blk_below (lb BK152.out) hb); have n2_ := Aside0.mk (blk_below (lb BK160.out) hb); have n3_ := Aside0.mk (KeepBut.trans (lK HK.out) (KeepBut.of_below hb g none) (.inl rfl)); have n4_ := Aside0.mk (below_step (lB HB.out) hb); clear HI0 BK152 BK160 HK HB; have HI0 := n0_; have BK152 := n1_; have BK160 := n2_; have HK := n3_; have HB := n4_; clear n0_ n1_ n2_ n3_ n4_; (try clear hb); (try clear hb2); (try clear hk); (try clear hi); have hcz64_0 : w63.cell? ⟨gb160, 0, none⟩ = some (.string t156) := (blk_cell BK160.out 0).trans rfl; have hcz64_1 : w63.cell? ⟨gb160, 1, none⟩ = some (.string t157) := (blk_cell BK160.out 1).trans rfl; have hfz64_0 := blk_frozen BK160.out 0; have hfz64_1 := blk_frozen BK160.out 1; have hnb65 := NB152_0.out; have hnc65 := NB0_152.out; have hcz66_0 : w63.cell? ⟨gb152, 0, none⟩ = some (.string (⟨#[]⟩ : ByteArray)) := (blk_cell BK152.out 0).trans rfl; have hcz66_1 : w63.cell? ⟨gb152, 1, none⟩ = some (.string (⟨#[]⟩ : ByteArray)) := (blk_cell BK152.out 1).trans rfl; have hfz66_0 := blk_frozen BK152.out 0; have hfz66_1 := blk_frozen BK152.out 1))
  refine bodyPost_ret (results_cell_row rfl _ _ gb152 25 #[.string t180, .string t181] (0, 0) _ rfl (by (with_reducible repeat (first | refine blk_drewN ?_ _ | refine blk_drew ?_ | refine blk_alloc ?_ _)); refine blk_put (cs := #[.string t180, .string (⟨#[]⟩ : ByteArray)]) ?_ 1 _ rfl; (with_reducible repeat (first | refine blk_drewN ?_ _ | refine blk_drew ?_ | refine blk_alloc ?_ _)); refine blk_put (cs := #[.string (⟨#[]⟩ : ByteArray), .string (⟨#[]⟩ : ByteArray)]) ?_ 0 _ rfl; (with_reducible repeat (first | refine blk_drewN ?_ _ | refine blk_drew ?_ | refine blk_alloc ?_ _)); refine blk_far ?_ NB152_160.out _; (with_reducible repeat (first | refine blk_drewN ?_ _ | refine blk_drew ?_ | refine blk_alloc ?_ _)); refine blk_far ?_ NB152_160.out _; exact lb BK152.out) Tryz.underlying25 rfl (by kernel_rfl)) rfl ?_
  exact ⟨lx, by exact lI48 HI0.out, by exact lB HB.out, by exact lK HK.out⟩
def spec_DrawValueOf.f (k : Nat) (l0 : List Int) : Option (ByteArray × ByteArray × Int × Int) := (spec_l1Cur_pair.f k l0 0 0 6).bind fun bt216 => ((spec_l1Cur_fraction.f k l0 bt216.2.2.1 bt216.2.2.2 5).bind fun bt220 => (some (bt216.1, bt216.2.1, bt220.1, bt220.2.1)))
set_option maxHeartbeats 8000000 in
set_option maxRecDepth 100000 in
theorem spec_DrawValueOf.calls (k : Nat) (A0 : Option Addr) (c0 : Nat) (l0 : List Int) (r1 : ByteArray) (r2 : ByteArray) (r3 : Int) (r4 : Int) (w : World) (hr0 : Kd.C (Kd.int .u8) w A0 l0.length l0) (hc0 : l0.length ≤ c0) (h : spec_DrawValueOf.f k l0 = some (r1, r2, r3, r4)) :
    Calls Tryz.prog 5 #[.slice A0 l0.length c0] w fun e w' => e = .returned (.tuple #[.agg #[.string r1, .string r2], .agg #[.int .i64 r3, .int .i64 r4]]) ∧ Below w.heap.size w w' := by
  have hu25 := Tryz.underlying25
  have hu27 := Tryz.underlying27
  have hu48 := Tryz.underlying48
  have HR0 := Aside0.mk hr0
  have HC0 := Aside0.mk hc0
  clear hr0 hc0
  have HB := Aside0.mk (Below.refl w.heap.size w)
  have H : ((spec_l1Cur_pair.f k l0 0 0 6).bind fun bt216 => ((spec_l1Cur_fraction.f k l0 bt216.2.2.1 bt216.2.2.2 5).bind fun bt220 => (some (bt216.1, bt216.2.1, bt220.1, bt220.2.1)))) = some (r1, r2, r3, r4) := h
  clear h
  replace H := Option.bind_eq_some_iff.mp H
  obtain ⟨⟨t216, t217, t218, t219⟩, A20, H⟩ := H
  replace H : ((spec_l1Cur_fraction.f k l0 t218 t219 5).bind fun bt220 => (some (t216, t217, bt220.1, bt220.2.1))) = some (r1, r2, r3, r4) := H
  have A2 := Aside0.mk A20
  clear A20
  replace H := Option.bind_eq_some_iff.mp H
  obtain ⟨⟨t220, t221, t222, t223⟩, A30, H⟩ := H
  replace H : (some (t216, t217, t220, t221)) = some (r1, r2, r3, r4) := H
  have A3 := Aside0.mk A30
  clear A30
  simp only [Option.some.injEq, Prod.mk.injEq] at H
  obtain ⟨rfl, rfl, rfl, rfl⟩ := H
  go_enter Tryz.func5, Tryz.ntmps5
  go_wp2_with (first | ((with_reducible refine gate_dst (N := 2) rfl ?_); refine box_event ?hg (N := 2) ?hd (cs := #[.string (⟨#[]⟩ : ByteArray), .string (⟨#[]⟩ : ByteArray)]) (t := 25) ?hr ?_; (case hd => rfl); (case hg => rfl); (case hr => exact lr); intro gb213 hg w4 hbox hb; have n0_ := Aside0.mk (below_step (lB HB.out) hb); have n1_ := Aside0.mk (hbox); have n2_ := gw hg (lB HB.out); have n3_ := gw hg (lB HB.out); clear HB; have HB := n0_; have BK213 := n1_; have GW213 := n2_; have GE213 := n3_; clear n0_ n1_ n2_ n3_; clear hb hbox hg) | ((with_reducible refine gate_dst (N := 3) rfl ?_); refine box_event ?hg (N := 3) ?hd (cs := #[.int .i64 0, .int .i64 0]) (t := 27) ?hr ?_; (case hd => rfl); (case hg => rfl); (case hr => exact lr); intro gb214 hg w5 hbox hb; have n0_ := Aside0.mk (blk_below (lb BK213.out) hb); have n1_ := Aside0.mk (below_step (lB HB.out) hb); have n2_ := Aside0.mk (hbox); have n3_ := gw hg (lB HB.out); have n4_ := gw hg (lB HB.out); have n5_ := na hg (lb BK213.out); have n6_ := nz hg (lb BK213.out); clear BK213 HB; have BK213 := n0_; have HB := n1_; have BK214 := n2_; have GW214 := n3_; have GE214 := n4_; have NB213_214 := n5_; have NB214_213 := n6_; clear n0_ n1_ n2_ n3_ n4_ n5_ n6_; clear hb hbox hg) | ((with_reducible refine gate_dst (N := 7) rfl ?_); refine box_event ?hg (N := 7) ?hd (cs := #[.slice A0 l0.length c0, .int .i64 0, .int .u64 0]) (t := 48) ?hr ?_; (case hd => rfl); (case hg => rfl); (case hr => exact lr); intro gb215 hg w6 hbox hb; have n0_ := Aside0.mk (blk_below (lb BK213.out) hb); have n1_ := Aside0.mk (blk_below (lb BK214.out) hb); have n2_ := Aside0.mk (below_step (lB HB.out) hb); have n3_ := gw hg (lB HB.out); have n4_ := gw hg (lB HB.out); have n5_ := na hg (lb BK213.out); have n6_ := nz hg (lb BK213.out); have n7_ := na hg (lb BK214.out); have n8_ := nz hg (lb BK214.out); have n9_ := Aside0.mk ((show IsS48 w w6 gb215 l0 0 0 from ⟨_, _, hbox, (by rw [hg]; exact (below_size (lB HB.out)) : w.heap.size ≤ gb215), HR0.out⟩)); clear BK213 BK214 HB; have BK213 := n0_; have BK214 := n1_; have HB := n2_; have GW215 := n3_; have GE215 := n4_; have NB213_215 := n5_; have NB215_213 := n6_; have NB214_215 := n7_; have NB215_214 := n8_; have HI215 := n9_; clear n0_ n1_ n2_ n3_ n4_ n5_ n6_ n7_ n8_ n9_; clear hb hbox hg) | ((with_reducible refine gate_callee (f := 19) rfl ?_); refine goesL_ (some 9) rfl rfl Tryz.func19 (by kernel_rfl) rfl #[.pointer (some ⟨gb215, 0, none⟩), .int .i64 6] rfl lm ?_; (with_reducible refine (spec_l1Cur_pair.calls k gb215 l0 0 0 6 t216 t217 t218 t219 w _ ?side1 ?side2 A2.out).mono ?_); (case side1 => exact lI48 HI215.out); (case side2 => exact lB HB.out); rintro e w7 ⟨rfl, hi, hb, hk⟩; refine ⟨_, rfl, ?_⟩; have n0_ := Aside0.mk (KeepBut.blk hk (g' := gb213) (o := .cells #[.string (⟨#[]⟩ : ByteArray), .string (⟨#[]⟩ : ByteArray)] 25 (0, 0)) (lb BK213.out) NB213_215.out (by simp)); have n1_ := Aside0.mk (KeepBut.blk hk (g' := gb214) (o := .cells #[.int .i64 0, .int .i64 0] 27 (0, 0)) (lb BK214.out) NB214_215.out (by simp)); have n2_ := Aside0.mk (hb); have n3_ := Aside0.mk (hi); clear BK213 BK214 HB HI215; have BK213 := n0_; have BK214 := n1_; have HB := n2_; have HI215 := n3_; clear n0_ n1_ n2_ n3_; (try clear hb); (try clear hb2); (try clear hk); (try clear hi)) | ((with_reducible refine gate_callee (f := 20) rfl ?_); refine goesL_ (some 11) rfl rfl Tryz.func20 (by kernel_rfl) rfl #[.pointer (some ⟨gb215, 0, none⟩), .int .i64 5] rfl lm ?_; (with_reducible refine (spec_l1Cur_fraction.calls k gb215 l0 t218 t219 5 t220 t221 t222 t223 w _ ?side1 ?side2 A3.out).mono ?_); (case side1 => exact lI48 HI215.out); (case side2 => exact lB HB.out); rintro e w8 ⟨rfl, hi, hb, hk⟩; refine ⟨_, rfl, ?_⟩; have n0_ := Aside0.mk (KeepBut.blk hk (g' := gb213) (o := .cells #[.string (⟨#[]⟩ : ByteArray), .string (⟨#[]⟩ : ByteArray)] 25 (0, 0)) (lb BK213.out) NB213_215.out (by simp)); have n1_ := Aside0.mk (KeepBut.blk hk (g' := gb214) (o := .cells #[.int .i64 0, .int .i64 0] 27 (0, 0)) (lb BK214.out) NB214_215.out (by simp)); have n2_ := Aside0.mk (hb); have n3_ := Aside0.mk (hi); clear BK213 BK214 HB HI215; have BK213 := n0_; have BK214 := n1_; have HB := n2_; have HI215 := n3_; clear n0_ n1_ n2_ n3_; (try clear hb); (try clear hb2); (try clear hk); (try clear hi); have hnb9 := NB213_214.out; have hnc9 := NB214_213.out; have hnb10 := NB213_215.out; have hnc10 := NB215_213.out; have hcz11_0 : w8.cell? ⟨gb213, 0, none⟩ = some (.string (⟨#[]⟩ : ByteArray)) := (blk_cell BK213.out 0).trans rfl; have hcz11_1 : w8.cell? ⟨gb213, 1, none⟩ = some (.string (⟨#[]⟩ : ByteArray)) := (blk_cell BK213.out 1).trans rfl; have hfz11_0 := blk_frozen BK213.out 0; have hfz11_1 := blk_frozen BK213.out 1; have hnb12 := NB214_215.out; have hnc12 := NB215_214.out; have hcz13_0 : w8.cell? ⟨gb214, 0, none⟩ = some (.int .i64 0) := (blk_cell BK214.out 0).trans rfl; have hcz13_1 : w8.cell? ⟨gb214, 1, none⟩ = some (.int .i64 0) := (blk_cell BK214.out 1).trans rfl; have hfz13_0 := blk_frozen BK214.out 0; have hfz13_1 := blk_frozen BK214.out 1))
  refine bodyPost_ret (results_cc rfl _ _ gb213 gb214 25 27 #[.string t216, .string t217] #[.int .i64 t220, .int .i64 t221] (0, 0) (0, 0) _ _ rfl (by (with_reducible repeat (first | refine blk_drewN ?_ _ | refine blk_drew ?_ | refine blk_alloc ?_ _)); refine blk_far ?_ NB213_214.out _; (with_reducible repeat (first | refine blk_drewN ?_ _ | refine blk_drew ?_ | refine blk_alloc ?_ _)); refine blk_far ?_ NB213_214.out _; (with_reducible repeat (first | refine blk_drewN ?_ _ | refine blk_drew ?_ | refine blk_alloc ?_ _)); refine blk_put (cs := #[.string t216, .string (⟨#[]⟩ : ByteArray)]) ?_ 1 _ rfl; (with_reducible repeat (first | refine blk_drewN ?_ _ | refine blk_drew ?_ | refine blk_alloc ?_ _)); refine blk_put (cs := #[.string (⟨#[]⟩ : ByteArray), .string (⟨#[]⟩ : ByteArray)]) ?_ 0 _ rfl; exact lb BK213.out) Tryz.underlying25 rfl (by kernel_rfl) rfl (by (with_reducible repeat (first | refine blk_drewN ?_ _ | refine blk_drew ?_ | refine blk_alloc ?_ _)); refine blk_put (cs := #[.int .i64 t220, .int .i64 0]) ?_ 1 _ rfl; (with_reducible repeat (first | refine blk_drewN ?_ _ | refine blk_drew ?_ | refine blk_alloc ?_ _)); refine blk_put (cs := #[.int .i64 0, .int .i64 0]) ?_ 0 _ rfl; (with_reducible repeat (first | refine blk_drewN ?_ _ | refine blk_drew ?_ | refine blk_alloc ?_ _)); refine blk_far ?_ NB214_213.out _; (with_reducible repeat (first | refine blk_drewN ?_ _ | refine blk_drew ?_ | refine blk_alloc ?_ _)); refine blk_far ?_ NB214_213.out _; exact lb BK214.out) Tryz.underlying27 rfl (by kernel_rfl)) rfl ?_
  exact ⟨lx, by exact lB HB.out⟩
def spec_DrawProductPair.f (k : Nat) (l0 : List Int) : Option (ByteArray × ByteArray × ByteArray × ByteArray) := (spec_l1Cur_pair.f k l0 0 0 4).bind fun bt227 => ((spec_l1Cur_pair.f k l0 bt227.2.2.1 bt227.2.2.2 4).bind fun bt231 => (some (bt227.1, bt227.2.1, bt231.1, bt231.2.1)))
set_option maxHeartbeats 8000000 in
set_option maxRecDepth 100000 in
theorem spec_DrawProductPair.calls (k : Nat) (A0 : Option Addr) (c0 : Nat) (l0 : List Int) (r1 : ByteArray) (r2 : ByteArray) (r3 : ByteArray) (r4 : ByteArray) (w : World) (hr0 : Kd.C (Kd.int .u8) w A0 l0.length l0) (hc0 : l0.length ≤ c0) (h : spec_DrawProductPair.f k l0 = some (r1, r2, r3, r4)) :
    Calls Tryz.prog 10 #[.slice A0 l0.length c0] w fun e w' => e = .returned (.tuple #[.agg #[.string r1, .string r2], .agg #[.string r3, .string r4]]) ∧ Below w.heap.size w w' := by
  have hu25 := Tryz.underlying25
  have hu48 := Tryz.underlying48
  have HR0 := Aside0.mk hr0
  have HC0 := Aside0.mk hc0
  clear hr0 hc0
  have HB := Aside0.mk (Below.refl w.heap.size w)
  have H : ((spec_l1Cur_pair.f k l0 0 0 4).bind fun bt227 => ((spec_l1Cur_pair.f k l0 bt227.2.2.1 bt227.2.2.2 4).bind fun bt231 => (some (bt227.1, bt227.2.1, bt231.1, bt231.2.1)))) = some (r1, r2, r3, r4) := h
  clear h
  replace H := Option.bind_eq_some_iff.mp H
  obtain ⟨⟨t227, t228, t229, t230⟩, A20, H⟩ := H
  replace H : ((spec_l1Cur_pair.f k l0 t229 t230 4).bind fun bt231 => (some (t227, t228, bt231.1, bt231.2.1))) = some (r1, r2, r3, r4) := H
  have A2 := Aside0.mk A20
  clear A20
  replace H := Option.bind_eq_some_iff.mp H
  obtain ⟨⟨t231, t232, t233, t234⟩, A30, H⟩ := H
  replace H : (some (t227, t228, t231, t232)) = some (r1, r2, r3, r4) := H
  have A3 := Aside0.mk A30
  clear A30
  simp only [Option.some.injEq, Prod.mk.injEq] at H
  obtain ⟨rfl, rfl, rfl, rfl⟩ := H
  go_enter Tryz.func10, Tryz.ntmps10
  go_wp2_with (first | ((with_reducible refine gate_dst (N := 2) rfl ?_); refine box_event ?hg (N := 2) ?hd (cs := #[.string (⟨#[]⟩ : ByteArray), .string (⟨#[]⟩ : ByteArray)]) (t := 25) ?hr ?_; (case hd => rfl); (case hg => rfl); (case hr => exact lr); intro gb224 hg w4 hbox hb; have n0_ := Aside0.mk (below_step (lB HB.out) hb); have n1_ := Aside0.mk (hbox); have n2_ := gw hg (lB HB.out); have n3_ := gw hg (lB HB.out); clear HB; have HB := n0_; have BK224 := n1_; have GW224 := n2_; have GE224 := n3_; clear n0_ n1_ n2_ n3_; clear hb hbox hg) | ((with_reducible refine gate_dst (N := 3) rfl ?_); refine box_event ?hg (N := 3) ?hd (cs := #[.string (⟨#[]⟩ : ByteArray), .string (⟨#[]⟩ : ByteArray)]) (t := 25) ?hr ?_; (case hd => rfl); (case hg => rfl); (case hr => exact lr); intro gb225 hg w5 hbox hb; have n0_ := Aside0.mk (blk_below (lb BK224.out) hb); have n1_ := Aside0.mk (below_step (lB HB.out) hb); have n2_ := Aside0.mk (hbox); have n3_ := gw hg (lB HB.out); have n4_ := gw hg (lB HB.out); have n5_ := na hg (lb BK224.out); have n6_ := nz hg (lb BK224.out); clear BK224 HB; have BK224 := n0_; have HB := n1_; have BK225 := n2_; have GW225 := n3_; have GE225 := n4_; have NB224_225 := n5_; have NB225_224 := n6_; clear n0_ n1_ n2_ n3_ n4_ n5_ n6_; clear hb hbox hg) | ((with_reducible refine gate_dst (N := 7) rfl ?_); refine box_event ?hg (N := 7) ?hd (cs := #[.slice A0 l0.length c0, .int .i64 0, .int .u64 0]) (t := 48) ?hr ?_; (case hd => rfl); (case hg => rfl); (case hr => exact lr); intro gb226 hg w6 hbox hb; have n0_ := Aside0.mk (blk_below (lb BK224.out) hb); have n1_ := Aside0.mk (blk_below (lb BK225.out) hb); have n2_ := Aside0.mk (below_step (lB HB.out) hb); have n3_ := gw hg (lB HB.out); have n4_ := gw hg (lB HB.out); have n5_ := na hg (lb BK224.out); have n6_ := nz hg (lb BK224.out); have n7_ := na hg (lb BK225.out); have n8_ := nz hg (lb BK225.out); have n9_ := Aside0.mk ((show IsS48 w w6 gb226 l0 0 0 from ⟨_, _, hbox, (by rw [hg]; exact (below_size (lB HB.out)) : w.heap.size ≤ gb226), HR0.out⟩)); clear BK224 BK225 HB; have BK224 := n0_; have BK225 := n1_; have HB := n2_; have GW226 := n3_; have GE226 := n4_; have NB224_226 := n5_; have NB226_224 := n6_; have NB225_226 := n7_; have NB226_225 := n8_; have HI226 := n9_; clear n0_ n1_ n2_ n3_ n4_ n5_ n6_ n7_ n8_ n9_; clear hb hbox hg) | ((with_reducible refine gate_callee (f := 19) rfl ?_); refine goesL_ (some 9) rfl rfl Tryz.func19 (by kernel_rfl) rfl #[.pointer (some ⟨gb226, 0, none⟩), .int .i64 4] rfl lm ?_; (with_reducible refine (spec_l1Cur_pair.calls k gb226 l0 0 0 4 t227 t228 t229 t230 w _ ?side1 ?side2 A2.out).mono ?_); (case side1 => exact lI48 HI226.out); (case side2 => exact lB HB.out); rintro e w7 ⟨rfl, hi, hb, hk⟩; refine ⟨_, rfl, ?_⟩; have n0_ := Aside0.mk (KeepBut.blk hk (g' := gb224) (o := .cells #[.string (⟨#[]⟩ : ByteArray), .string (⟨#[]⟩ : ByteArray)] 25 (0, 0)) (lb BK224.out) NB224_226.out (by simp)); have n1_ := Aside0.mk (KeepBut.blk hk (g' := gb225) (o := .cells #[.string (⟨#[]⟩ : ByteArray), .string (⟨#[]⟩ : ByteArray)] 25 (0, 0)) (lb BK225.out) NB225_226.out (by simp)); have n2_ := Aside0.mk (hb); have n3_ := Aside0.mk (hi); clear BK224 BK225 HB HI226; have BK224 := n0_; have BK225 := n1_; have HB := n2_; have HI226 := n3_; clear n0_ n1_ n2_ n3_; (try clear hb); (try clear hb2); (try clear hk); (try clear hi)) | ((with_reducible refine gate_callee (f := 19) rfl ?_); refine goesL_ (some 11) rfl rfl Tryz.func19 (by kernel_rfl) rfl #[.pointer (some ⟨gb226, 0, none⟩), .int .i64 4] rfl lm ?_; (with_reducible refine (spec_l1Cur_pair.calls k gb226 l0 t229 t230 4 t231 t232 t233 t234 w _ ?side1 ?side2 A3.out).mono ?_); (case side1 => exact lI48 HI226.out); (case side2 => exact lB HB.out); rintro e w8 ⟨rfl, hi, hb, hk⟩; refine ⟨_, rfl, ?_⟩; have n0_ := Aside0.mk (KeepBut.blk hk (g' := gb224) (o := .cells #[.string (⟨#[]⟩ : ByteArray), .string (⟨#[]⟩ : ByteArray)] 25 (0, 0)) (lb BK224.out) NB224_226.out (by simp)); have n1_ := Aside0.mk (KeepBut.blk hk (g' := gb225) (o := .cells #[.string (⟨#[]⟩ : ByteArray), .string (⟨#[]⟩ : ByteArray)] 25 (0, 0)) (lb BK225.out) NB225_226.out (by simp)); have n2_ := Aside0.mk (hb); have n3_ := Aside0.mk (hi); clear BK224 BK225 HB HI226; have BK224 := n0_; have BK225 := n1_; have HB := n2_; have HI226 := n3_; clear n0_ n1_ n2_ n3_; (try clear hb); (try clear hb2); (try clear hk); (try clear hi); have hnb9 := NB224_225.out; have hnc9 := NB225_224.out; have hnb10 := NB224_226.out; have hnc10 := NB226_224.out; have hcz11_0 : w8.cell? ⟨gb224, 0, none⟩ = some (.string (⟨#[]⟩ : ByteArray)) := (blk_cell BK224.out 0).trans rfl; have hcz11_1 : w8.cell? ⟨gb224, 1, none⟩ = some (.string (⟨#[]⟩ : ByteArray)) := (blk_cell BK224.out 1).trans rfl; have hfz11_0 := blk_frozen BK224.out 0; have hfz11_1 := blk_frozen BK224.out 1; have hnb12 := NB225_226.out; have hnc12 := NB226_225.out; have hcz13_0 : w8.cell? ⟨gb225, 0, none⟩ = some (.string (⟨#[]⟩ : ByteArray)) := (blk_cell BK225.out 0).trans rfl; have hcz13_1 : w8.cell? ⟨gb225, 1, none⟩ = some (.string (⟨#[]⟩ : ByteArray)) := (blk_cell BK225.out 1).trans rfl; have hfz13_0 := blk_frozen BK225.out 0; have hfz13_1 := blk_frozen BK225.out 1))
  refine bodyPost_ret (results_cc rfl _ _ gb224 gb225 25 25 #[.string t227, .string t228] #[.string t231, .string t232] (0, 0) (0, 0) _ _ rfl (by (with_reducible repeat (first | refine blk_drewN ?_ _ | refine blk_drew ?_ | refine blk_alloc ?_ _)); refine blk_far ?_ NB224_225.out _; (with_reducible repeat (first | refine blk_drewN ?_ _ | refine blk_drew ?_ | refine blk_alloc ?_ _)); refine blk_far ?_ NB224_225.out _; (with_reducible repeat (first | refine blk_drewN ?_ _ | refine blk_drew ?_ | refine blk_alloc ?_ _)); refine blk_put (cs := #[.string t227, .string (⟨#[]⟩ : ByteArray)]) ?_ 1 _ rfl; (with_reducible repeat (first | refine blk_drewN ?_ _ | refine blk_drew ?_ | refine blk_alloc ?_ _)); refine blk_put (cs := #[.string (⟨#[]⟩ : ByteArray), .string (⟨#[]⟩ : ByteArray)]) ?_ 0 _ rfl; exact lb BK224.out) Tryz.underlying25 rfl (by kernel_rfl) rfl (by (with_reducible repeat (first | refine blk_drewN ?_ _ | refine blk_drew ?_ | refine blk_alloc ?_ _)); refine blk_put (cs := #[.string t231, .string (⟨#[]⟩ : ByteArray)]) ?_ 1 _ rfl; (with_reducible repeat (first | refine blk_drewN ?_ _ | refine blk_drew ?_ | refine blk_alloc ?_ _)); refine blk_put (cs := #[.string (⟨#[]⟩ : ByteArray), .string (⟨#[]⟩ : ByteArray)]) ?_ 0 _ rfl; (with_reducible repeat (first | refine blk_drewN ?_ _ | refine blk_drew ?_ | refine blk_alloc ?_ _)); refine blk_far ?_ NB225_224.out _; (with_reducible repeat (first | refine blk_drewN ?_ _ | refine blk_drew ?_ | refine blk_alloc ?_ _)); refine blk_far ?_ NB225_224.out _; exact lb BK225.out) Tryz.underlying25 rfl (by kernel_rfl)) rfl ?_
  exact ⟨lx, by exact lB HB.out⟩
end Go.Proofs.YtgnepbogadfinaaGreatDoor.PA
namespace Go.Proofs.YtgnepbogadfinaaGreatDoor.PA
open Go.RowKit Go.Proofs.YtgnepbogadfinaaGreatDoorW.PrintWords
def Oct (l : List Int) : Prop := ∀ x ∈ l, 0 ≤ x ∧ x ≤ 255
def Lf (m : Nat) (a : Int) : Prop := 0 ≤ a ∧ a + m ≤ 4611686018427387904
theorem Lf.less {m n : Nat} {a : Int} (h : Lf m a) (hn : n ≤ m) : Lf n a := by unfold Lf at *; omega
theorem oct_of3 {l : List Int} (h : ∀ x ∈ l, (Lit.int .u8 x).wf = true) : Oct l := fun x hx => by
  have := h x hx
  simp [Lit.wf, IntKind.min, IntKind.max, IntKind.bits, IntKind.signed] at this
  omega
theorem w64 {x : Int} (h : -9223372036854775808 ≤ x ∧ x ≤ 9223372036854775807) : wrap64 x = x := by unfold wrap64; omega
theorem rd_oct {l : List Int} (hl : Oct l) (i : Int) (h0 : 0 ≤ i) (h1 : i < l.length) : 0 ≤ rd l i ∧ rd l i ≤ 255 := by
  unfold rd
  rw [List.getD_eq_getElem?_getD, List.getElem?_eq_getElem (by omega)]
  exact hl _ (List.getElem_mem _)
theorem u64_range (n : Int) : 0 ≤ IntKind.u64.wrap n ∧ IntKind.u64.wrap n < 18446744073709551616 := by
  simp [IntKind.wrap, IntKind.bits, IntKind.signed]; omega
theorem u64_in (n : Int) (h0 : 0 ≤ n) (h1 : n < 2 ^ 64) : IntKind.u64.wrap n = n := by
  simp [IntKind.wrap, IntKind.bits, IntKind.signed]; omega
theorem byte_of (n : Int) : 0 ≤ wrap64 (Go.bits .and .u64 (IntKind.u64.wrap n / 1099511627776) 255) ∧ wrap64 (Go.bits .and .u64 (IntKind.u64.wrap n / 1099511627776) 255) ≤ 255 := by
  obtain ⟨h0, h1⟩ := u64_range n
  generalize IntKind.u64.wrap n = x at *
  have h2 : 0 ≤ x / 1099511627776 := by omega
  have h3 : x / 1099511627776 < 2 ^ 64 := by omega
  have := bits_mask .u64 64 (by decide) u64_in 8 (by decide) (x / 1099511627776) h2 h3
  rw [show ((2 : Int) ^ 8 - 1) = 255 from rfl] at this
  rw [this, w64 (by omega)]
  omega
theorem next_tot {l : List Int} (hl : Oct l) {m : Nat} {a s : Int} (h : Lf (m + 1) a) : ∃ r s', spec_l1Cur_next.f l a s = some (r, a + 1, s') ∧ 0 ≤ r ∧ r ≤ 255 := by
  unfold Lf at h
  have hw : wrap64 (a + 1) = a + 1 := w64 (by omega)
  unfold spec_l1Cur_next.f
  by_cases h1 : a < (l.length : Int)
  · obtain ⟨b0, b1⟩ := rd_oct hl a h.1 h1
    rw [if_pos h1, if_pos h.1, hw]
    by_cases h2 : a + 1 ≤ (l.length : Int)
    · rw [if_pos h2, w64 (x := rd l a) (by omega)]
      exact ⟨_, _, rfl, b0, b1⟩
    · rw [if_neg h2]
      exact ⟨_, _, rfl, (byte_of _).1, (byte_of _).2⟩
  · rw [if_neg h1, hw]
    by_cases h2 : a + 1 ≤ (l.length : Int)
    · rw [if_pos h2]
      try simp only [Option.bind_some]
      exact ⟨_, _, rfl, by omega, by omega⟩
    · rw [if_neg h2]
      exact ⟨_, _, rfl, (byte_of _).1, (byte_of _).2⟩
theorem pick_tot {l : List Int} (hl : Oct l) {m : Nat} {a s : Int} (n : Int) (hn : n ≤ 1000000000) (h : Lf (m + 2) a) : ∃ r a' s', spec_l1Cur_pick.f l a s n = some (r, a', s') ∧ 0 ≤ r ∧ (1 ≤ n → r < n) ∧ Lf m a' := by
  unfold spec_l1Cur_pick.f
  by_cases h1 : n ≤ 1
  · rw [if_pos h1]
    exact ⟨0, a, s, rfl, by omega, fun _ => by omega, h.less (by omega)⟩
  · obtain ⟨r, s', e, r0, r1⟩ := next_tot hl (m := m + 1) (a := a) (s := s) h
    rw [if_neg h1, e]
    simp only [Option.bind_some]
    have h' : Lf (m + 1) (a + 1) := by unfold Lf at *; omega
    by_cases h2 : n > 200
    · obtain ⟨r2, s2, e2, r20, r21⟩ := next_tot hl (m := m) (s := s') h'
      rw [if_pos h2, e2]
      simp only [Option.bind_some]
      rw [if_neg (by omega), w64 (x := r * 256) (by omega), w64 (by omega)]
      have hm : Int.tmod (r * 256 + r2) n = (r * 256 + r2) % n := Int.tmod_eq_emod_of_nonneg (by omega)
      rw [hm]
      exact ⟨_, _, _, rfl, Int.emod_nonneg _ (by omega), fun _ => Int.emod_lt_of_pos _ (by omega), by unfold Lf at *; omega⟩
    · rw [if_neg h2, if_neg (by omega)]
      have hm : Int.tmod r n = r % n := Int.tmod_eq_emod_of_nonneg (by omega)
      rw [hm]
      exact ⟨_, _, _, rfl, Int.emod_nonneg _ (by omega), fun _ => Int.emod_lt_of_pos _ (by omega), by unfold Lf at *; omega⟩
theorem one_tot {l : List Int} (hl : Oct l) {m : Nat} {a s : Int} (n : Int) (hn : n ≤ 1000000000) (h : Lf (m + 2) a) : ∃ b a' s', spec_l1Cur_one.f l a s n = some (b, a', s') ∧ Lf m a' := by
  obtain ⟨r, a', s', e, _, _, h'⟩ := pick_tot hl n hn (a := a) (s := s) h
  unfold spec_l1Cur_one.f
  rw [e]
  exact ⟨_, _, _, rfl, h'⟩
theorem among_tot {l : List Int} (hl : Oct l) {m : Nat} {a s : Int} (xs : List Int) (h0 : 0 < xs.length) (hn : xs.length ≤ 1000) (h : Lf (m + 2) a) : ∃ x a' s', spec_l1Cur_among.f l a s xs = some (x, a', s') ∧ x ∈ xs ∧ Lf m a' := by
  obtain ⟨r, a', s', e, r0, r1, h'⟩ := pick_tot hl (xs.length : Int) (by omega) (a := a) (s := s) h
  have r2 := r1 (by omega)
  unfold spec_l1Cur_among.f
  rw [e]
  simp only [Option.bind_some]
  rw [if_pos r0, if_pos r2]
  refine ⟨_, _, _, rfl, ?_, h'⟩
  unfold rd
  rw [List.getD_eq_getElem?_getD, List.getElem?_eq_getElem (by omega)]
  exact List.getElem_mem _
theorem lit4 : (⟨#[40, 46, 46, 41]⟩ : ByteArray) = N.tx (.node .leaf .leaf) := rfl
theorem graft_tot (T : N.Tr) (i : Int) (h0 : 0 ≤ i) (h1 : i < T.carets + 1) (h2 : T.carets < 900) : ∃ T' : N.Tr, spec_trGraft.f (N.tx T) i (⟨#[40, 46, 46, 41]⟩ : ByteArray) = some (N.tx T') ∧ T'.carets = T.carets + 1 := by
  refine ⟨N.graft T i.toNat (.node .leaf .leaf), ?_, ?_⟩
  · rw [lit4]
    unfold spec_trGraft.f
    rw [N.parseT_tx, N.parseT_tx]
    exact if_pos ⟨h0, by omega, by omega, by decide⟩
  · exact N.grown_one _ _ T 0 (Nat.zero_le _) (by omega)
theorem sureTree_loop {l : List Int} (hl : Oct l) (n : Nat) (hn : n ≤ 800) : ∀ (d k : Nat) (m : Nat) (a s : Int) (T : N.Tr) (i : Nat), i + d = n → d < k → T.carets = i → Lf (m + 2 * d) a →
    ∃ (T' : N.Tr) (a' s' : Int), spec_l1Cur_sureTree.l0 k n (N.tx T) i l a s = some (N.tx T', a', s') ∧ T'.carets = n ∧ Lf m a' := by
  intro d
  induction d with
  | zero =>
    intro k m a s T i hi hk hT h
    obtain ⟨k, rfl⟩ : ∃ q, k = q + 1 := ⟨k - 1, by omega⟩
    exact ⟨T, a, s, by simp only [spec_l1Cur_sureTree.l0]; rw [if_neg (by omega)], by omega, h⟩
  | succ d ih =>
    intro k m a s T i hi hk hT h
    obtain ⟨k, rfl⟩ : ∃ q, k = q + 1 := ⟨k - 1, by omega⟩
    obtain ⟨r, a1, s1, e, r0, r1, h1⟩ := pick_tot hl (m := m + 2 * d) (a := a) (s := s) ((i : Int) + 1) (by omega) (by unfold Lf at *; omega)
    have r2 := r1 (by omega)
    obtain ⟨T1, e1, hT1⟩ := graft_tot T r r0 (by omega) (by omega)
    obtain ⟨T', a', s', e2, hT', h2⟩ := ih k m a1 s1 T1 (i + 1) (by omega) (by omega) (by omega) h1
    refine ⟨T', a', s', ?_, hT', h2⟩
    simp only [spec_l1Cur_sureTree.l0]
    rw [if_pos (by omega), w64 (by omega), e]
    simp only [Option.bind_some]
    rw [e1]
    simp only [Option.bind_some]
    rw [show ((i : Int) + 1) = ((i + 1 : Nat) : Int) by omega]
    exact e2
theorem sureTree_tot {l : List Int} (hl : Oct l) {m : Nat} {a s : Int} (n : Nat) (hn : n ≤ 800) (k : Nat) (hk : n < k) (h : Lf (m + 2 * n) a) : ∃ (T : N.Tr) (a' s' : Int), spec_l1Cur_sureTree.f k l a s n = some (N.tx T, a', s') ∧ T.carets = n ∧ Lf m a' :=
  sureTree_loop hl n hn n k m a s .leaf 0 (by omega) hk rfl h
theorem surePair_tot {l : List Int} (hl : Oct l) {m : Nat} {a s : Int} (n : Nat) (hn : n ≤ 800) (k : Nat) (hk : n < k) (h : Lf (m + 4 * n) a) : ∃ (T U : N.Tr) (a' s' : Int), spec_l1Cur_surePair.f k l a s n = some (N.tx T, N.tx U, a', s') ∧ T.carets = n ∧ U.carets = n ∧ Lf m a' := by
  obtain ⟨T, a1, s1, e1, hT, h1⟩ := sureTree_tot hl (m := m + 2 * n) (a := a) (s := s) n hn k hk (by unfold Lf at *; omega)
  obtain ⟨U, a2, s2, e2, hU, h2⟩ := sureTree_tot hl (m := m) (a := a1) (s := s1) n hn k hk h1
  unfold spec_l1Cur_surePair.f
  rw [e1]
  simp only [Option.bind_some]
  rw [e2]
  exact ⟨T, U, a2, s2, rfl, hT, hU, h2⟩
theorem str1 (b : Int) : (strOfNums [b]).size = 1 := by simp [strOfNums]; rfl
theorem ext_size (t : ByteArray) (i j : Nat) : (t.extract i j).size ≤ t.size := by simp [ByteArray.size_extract]; omega
theorem spoilt_loop {l : List Int} (hl : Oct l) (w : ByteArray) (hw : 0 < w.size) (hw2 : w.size ≤ 1000) : ∀ (d k m : Nat) (a s : Int) (t : ByteArray) (n : Int), 0 ≤ n → n.toNat = d → 2 * d + 1 < k → t.size + d ≤ 1000000 → Lf (m + 6 * d) a →
    ∃ (t' : ByteArray) (a' s' : Int), spec_l1Cur_spoilt.l0 k t w n l a s = some (t', a', s') ∧ t'.size ≤ t.size + d ∧ Lf m a' := by
  intro d
  induction d with
  | zero =>
    intro k m a s t n h0 hd hk ht h
    obtain ⟨k, rfl⟩ : ∃ q, k = q + 2 := ⟨k - 2, by omega⟩
    refine ⟨t, a, s, ?_, by omega, h⟩
    simp only [spec_l1Cur_spoilt.l0]
    rw [if_neg (by omega)]
    simp [spec_l1Cur_spoilt.j1]
  | succ d ih =>
    intro k m a s t n h0 hd hk ht h
    obtain ⟨k, rfl⟩ : ∃ q, k = q + 2 := ⟨k - 2, by omega⟩
    have hn : wrap64 (n - 1) = n - 1 := w64 (by omega)
    simp only [spec_l1Cur_spoilt.l0]
    rw [if_pos (by omega)]
    simp only [spec_l1Cur_spoilt.j1]
    by_cases hz : (t.size : Int) > 0
    · rw [decide_eq_true hz, if_pos rfl]
      obtain ⟨i, a1, s1, e1, i0, i1, h1⟩ := pick_tot hl (m := m + 6 * d + 4) (a := a) (s := s) (t.size : Int) (by omega) (by unfold Lf at *; omega)
      have i2 := i1 (by omega)
      obtain ⟨c, a2, s2, e2, c0, c1, h2⟩ := pick_tot hl (m := m + 6 * d + 2) (a := a1) (s := s1) (w.size : Int) (by omega) (by unfold Lf at *; omega)
      have c2 := c1 (by omega)
      obtain ⟨q, a3, s3, e3, q0, q1, h3⟩ := pick_tot hl (m := m + 6 * d) (a := a2) (s := s2) 3 (by omega) (by unfold Lf at *; omega)
      rw [e1]
      simp only [Option.bind_some]
      rw [e2]
      simp only [Option.bind_some]
      rw [if_pos c0, if_pos c2, e3]
      simp only [Option.bind_some]
      have x0 := ext_size t 0 i.toNat
      have xi : (t.extract i.toNat t.size).size + i.toNat ≤ t.size := by simp [ByteArray.size_extract]; omega
      have x00 : (t.extract 0 i.toNat).size ≤ i.toNat := by simp [ByteArray.size_extract]; omega
      have wi : wrap64 (i + 1) = i + 1 := w64 (by omega)
      have xj : (t.extract (i + 1).toNat t.size).size + i.toNat ≤ t.size := by simp [ByteArray.size_extract]; omega
      have s1_ := str1 (bt w c)
      by_cases q2 : q = 0
      · rw [if_pos q2, if_pos i0, if_pos (by omega), if_pos (by rw [s1_]; omega), if_pos (by rw [ByteArray.size_append, s1_]; omega), hn]
        have hs : (((t.extract 0 i.toNat) ++ strOfNums [bt w c]) ++ t.extract i.toNat t.size).size ≤ t.size + 1 := by rw [ByteArray.size_append, ByteArray.size_append, s1_]; omega
        obtain ⟨t', a', s', e4, ht', h4⟩ := ih k m a3 s3 (((t.extract 0 i.toNat) ++ strOfNums [bt w c]) ++ t.extract i.toNat t.size) (n - 1) (by omega) (by omega) (by omega) (by omega) h3
        exact ⟨t', a', s', e4, by omega, h4⟩
      · rw [if_neg q2]
        by_cases q3 : q = 1
        · rw [if_pos q3, if_pos i0, if_pos (by omega), if_pos (by rw [s1_]; omega), wi, if_pos (by omega), if_pos (by omega), if_pos (by rw [ByteArray.size_append, s1_]; omega), hn]
          have hs : (((t.extract 0 i.toNat) ++ strOfNums [bt w c]) ++ t.extract (i + 1).toNat t.size).size ≤ t.size + 1 := by rw [ByteArray.size_append, ByteArray.size_append, s1_]; omega
          obtain ⟨t', a', s', e4, ht', h4⟩ := ih k m a3 s3 (((t.extract 0 i.toNat) ++ strOfNums [bt w c]) ++ t.extract (i + 1).toNat t.size) (n - 1) (by omega) (by omega) (by omega) (by omega) h3
          exact ⟨t', a', s', e4, by omega, h4⟩
        · rw [if_neg q3, if_pos i0, if_pos (by omega), wi, if_pos (by omega), if_pos (by omega), if_pos (by omega), hn]
          have hs : ((t.extract 0 i.toNat) ++ t.extract (i + 1).toNat t.size).size ≤ t.size + 1 := by rw [ByteArray.size_append]; omega
          obtain ⟨t', a', s', e4, ht', h4⟩ := ih k m a3 s3 ((t.extract 0 i.toNat) ++ t.extract (i + 1).toNat t.size) (n - 1) (by omega) (by omega) (by omega) (by omega) h3
          exact ⟨t', a', s', e4, by omega, h4⟩
    · rw [decide_eq_false hz, if_neg (by decide)]
      exact ⟨t, a, s, rfl, by omega, h.less (by omega)⟩
theorem spoilt_tot {l : List Int} (hl : Oct l) {m : Nat} {a s : Int} (t w : ByteArray) (hw : 0 < w.size) (hw2 : w.size ≤ 1000) (ht : t.size ≤ 900000) (k : Nat) (hk : 5 < k) (h : Lf (m + 14) a) : ∃ (t' : ByteArray) (a' s' : Int), spec_l1Cur_spoilt.f k l a s t w = some (t', a', s') ∧ t'.size ≤ t.size + 2 ∧ Lf m a' := by
  obtain ⟨r, a1, s1, e1, r0, r1, h1⟩ := pick_tot hl (m := m + 12) (a := a) (s := s) 2 (by omega) (by unfold Lf at *; omega)
  have r2 := r1 (by omega)
  obtain ⟨t', a', s', e2, ht', h2⟩ := spoilt_loop hl w hw hw2 (1 + r).toNat k m a1 s1 t (1 + r) (by omega) rfl (by omega) (by omega) (by unfold Lf at *; omega)
  unfold spec_l1Cur_spoilt.f
  rw [e1]
  simp only [Option.bind_some]
  rw [w64 (by omega)]
  exact ⟨t', a', s', e2, by omega, h2⟩
theorem tx_size (T : N.Tr) : (N.tx T).size = 3 * T.carets + 1 := T.txt_length
theorem tree_tot {l : List Int} (hl : Oct l) {m : Nat} {a s : Int} (n : Nat) (hn : n ≤ 100) (k : Nat) (hk : 120 < k) (h : Lf (m + 2 * n + 40) a) : ∃ (t : ByteArray) (a' s' : Int), spec_l1Cur_tree.f k l a s n = some (t, a', s') ∧ t.size ≤ 400 ∧ Lf m a' := by
  unfold spec_l1Cur_tree.f
  obtain ⟨r, a1, s1, e1, r0, r1, h1⟩ := pick_tot hl (m := m + 2 * n + 38) (a := a) (s := s) ((n : Int) + 1) (by omega) (by unfold Lf at *; omega)
  have r2 := r1 (by omega)
  obtain ⟨q, rfl⟩ : ∃ q : Nat, r = q := ⟨r.toNat, by omega⟩
  obtain ⟨T, a2, s2, e2, hT, h2⟩ := sureTree_tot hl (m := m + 38) (a := a1) (s := s1) q (by omega) k (by omega) (by unfold Lf at *; omega)
  obtain ⟨u, a3, s3, e3, u0, u1, h3⟩ := pick_tot hl (m := m + 36) (a := a2) (s := s2) 14 (by omega) (by unfold Lf at *; omega)
  have zT := tx_size T
  rw [w64 (by omega), e1]
  simp only [Option.bind_some]
  rw [e2]
  simp only [Option.bind_some]
  rw [e3]
  simp only [Option.bind_some]
  by_cases z0 : u = 0
  · obtain ⟨t', a', s', e4, ht', h4⟩ := spoilt_tot hl (m := m) (a := a3) (s := s3) (N.tx T) (⟨#[40, 46, 41]⟩ : ByteArray) (by decide) (by decide) (by omega) k (by omega) (by unfold Lf at *; omega)
    rw [if_pos z0, e4]
    exact ⟨t', a', s', rfl, by omega, h4⟩
  · rw [if_neg z0]
    by_cases z1 : u = 1
    · obtain ⟨b, a4, s4, e4, b0, b1, h4⟩ := pick_tot hl (m := m + 34) (a := a3) (s := s3) 2 (by omega) (by unfold Lf at *; omega)
      have b2 := b1 (by omega)
      obtain ⟨c, rfl⟩ : ∃ c : Nat, b = c := ⟨b.toNat, by omega⟩
      obtain ⟨T2, a5, s5, e5, hT2, h5⟩ := sureTree_tot hl (m := m) (a := a4) (s := s4) (8 + c) (by omega) k (by omega) (by unfold Lf at *; omega)
      rw [if_pos z1, e4]
      simp only [Option.bind_some]
      rw [w64 (by omega), show (8 : Int) + (c : Int) = ((8 + c : Nat) : Int) by omega, e5]
      have := tx_size T2
      try simp only [Option.bind_some]
      exact ⟨_, a5, s5, rfl, by omega, h5⟩
    · rw [if_neg z1]
      try simp only [Option.bind_some]
      exact ⟨_, a3, s3, rfl, by omega, h3.less (by omega)⟩
theorem gen_some (i : Int) (h0 : 0 ≤ i) (h1 : i < 900) : ∃ T U : N.Tr, spec_prGenerator.f i = some (N.tx T, N.tx U) ∧ T.carets = i.toNat + 2 ∧ U.carets = i.toNat + 2 := by
  unfold spec_prGenerator.f
  rw [if_pos ⟨h0, h1⟩]
  exact ⟨_, _, rfl, (N.gen_carets _).1, (N.gen_carets _).2⟩
theorem pair_tot {l : List Int} (hl : Oct l) {m : Nat} {a s : Int} (n : Nat) (hn : n ≤ 100) (k : Nat) (hk : 120 < k) (h : Lf (m + 8 * n + 100) a) : ∃ (x y : ByteArray) (a' s' : Int), spec_l1Cur_pair.f k l a s n = some (x, y, a', s') ∧ x.size ≤ 400 ∧ y.size ≤ 400 ∧ Lf m a' := by
  unfold spec_l1Cur_pair.f
  obtain ⟨r, a1, s1, e1, r0, r1, h1⟩ := pick_tot hl (m := m + 8 * n + 98) (a := a) (s := s) ((n : Int) + 1) (by omega) (by unfold Lf at *; omega)
  have r2 := r1 (by omega)
  obtain ⟨q, rfl⟩ : ∃ q : Nat, r = q := ⟨r.toNat, by omega⟩
  obtain ⟨T, U, a2, s2, e2, hT, hU, h2⟩ := surePair_tot hl (m := m + 4 * n + 98) (a := a1) (s := s1) q (by omega) k (by omega) (by unfold Lf at *; omega)
  obtain ⟨u, a3, s3, e3, u0, u1, h3⟩ := pick_tot hl (m := m + 4 * n + 96) (a := a2) (s := s2) 14 (by omega) (by unfold Lf at *; omega)
  have zT := tx_size T
  have zU := tx_size U
  rw [w64 (by omega), e1]
  simp only [Option.bind_some]
  rw [e2]
  simp only [Option.bind_some]
  rw [e3]
  simp only [Option.bind_some]
  by_cases z0 : u = 0
  · obtain ⟨t', a', s', e4, ht', h4⟩ := tree_tot hl (m := m) (a := a3) (s := s3) n hn k hk (by unfold Lf at *; omega)
    rw [if_pos z0, e4]
    try simp only [Option.bind_some]
    exact ⟨_, _, a', s', rfl, by omega, ht', h4⟩
  · rw [if_neg z0]
    by_cases z1 : u = 1
    · obtain ⟨t', a', s', e4, ht', h4⟩ := spoilt_tot hl (m := m) (a := a3) (s := s3) (N.tx T) (⟨#[40, 46, 41]⟩ : ByteArray) (by decide) (by decide) (by omega) k (by omega) (by unfold Lf at *; omega)
      rw [if_pos z1, e4]
      try simp only [Option.bind_some]
      exact ⟨_, _, a', s', rfl, by omega, by omega, h4⟩
    · rw [if_neg z1]
      by_cases z2 : u = 2
      · obtain ⟨b, a4, s4, e4, b0, b1, h4⟩ := pick_tot hl (m := m + 94) (a := a3) (s := s3) 2 (by omega) (by unfold Lf at *; omega)
        have b2 := b1 (by omega)
        obtain ⟨c, rfl⟩ : ∃ c : Nat, b = c := ⟨b.toNat, by omega⟩
        obtain ⟨T2, U2, a5, s5, e5, hT2, hU2, h5⟩ := surePair_tot hl (m := m) (a := a4) (s := s4) (8 + c) (by omega) k (by omega) (by unfold Lf at *; omega)
        rw [if_pos z2, e4]
        simp only [Option.bind_some]
        rw [w64 (by omega), show (8 : Int) + (c : Int) = ((8 + c : Nat) : Int) by omega, e5]
        have := tx_size T2
        have := tx_size U2
        try simp only [Option.bind_some]
        exact ⟨_, _, a5, s5, rfl, by omega, by omega, h5⟩
      · rw [if_neg z2]
        by_cases z3 : u = 3
        · obtain ⟨b, a4, s4, e4, b0, b1, h4⟩ := pick_tot hl (m := m) (a := a3) (s := s3) 4 (by omega) (by unfold Lf at *; omega)
          have b2 := b1 (by omega)
          obtain ⟨T2, U2, e5, hT2, hU2⟩ := gen_some b b0 (by omega)
          rw [if_pos z3, e4]
          simp only [Option.bind_some]
          rw [e5]
          have := tx_size T2
          have := tx_size U2
          try simp only [Option.bind_some]
          exact ⟨_, _, a4, s4, rfl, by omega, by omega, h4⟩
        · rw [if_neg z3]
          try simp only [Option.bind_some]
          exact ⟨_, _, a3, s3, rfl, by omega, by omega, h3.less (by omega)⟩
end Go.Proofs.YtgnepbogadfinaaGreatDoor.PA
