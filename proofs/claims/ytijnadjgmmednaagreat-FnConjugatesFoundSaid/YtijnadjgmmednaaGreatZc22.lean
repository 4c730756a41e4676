import Derived.Test.YtijnadjgmmednaaGreatZc19
import Derived.Test.YtijnadjgmmednaaGreatZc21
/- A part of the proof: lemmas that later parts use. -/
set_option linter.unusedVariables false
set_option linter.unusedSimpArgs false
namespace Go.Proofs.YtijnadjgmmednaaGreat.PA
open Go.RowKit Go.Proofs.YtijnadjgmmednaaGreatW.PrintWords Go.Proofs.YtijnadjgmmednaaGreatW.PrintLast Go.Proofs.YtijnadjgmmednaaGreatW.PrintMore
attribute [local go_sem] max2_int min2_int max_two min_two max_three min_three max_four min_four
def spec_l1Cur_sureTree.l0 : Nat → Int → ByteArray → Int → List Int → Int → Int → Option (ByteArray × Int × Int)
  | 0, _, _, _, _, _, _ => none
  | k + 1, x1, x5, x6, x1000, x1001, x1002 => if x6 < x1 then ((spec_l1Cur_pick.f x1000 x1001 x1002 (wrap64 (x6 + 1))).bind fun bt108 => ((spec_trGraft.f x5 bt108.1 (⟨#[40, 46, 46, 41]⟩ : ByteArray)).bind fun t111 => (spec_l1Cur_sureTree.l0 k x1 t111 (wrap64 (x6 + 1)) x1000 bt108.2.1 bt108.2.2))) else (some (x5, x1001, x1002))
def spec_l1Cur_sureTree.f (k : Nat) (s0_0 : List Int) (s0_1 : Int) (s0_2 : Int) (a1 : Int) : Option (ByteArray × Int × Int) := spec_l1Cur_sureTree.l0 k a1 (⟨#[46]⟩ : ByteArray) 0 s0_0 s0_1 s0_2
theorem spec_l1Cur_sureTree.mono_l : ∀ k, (∀ y0 y1 y2 y3 y4 y5, LeO (spec_l1Cur_sureTree.l0 k y0 y1 y2 y3 y4 y5) (spec_l1Cur_sureTree.l0 (k + 1) y0 y1 y2 y3 y4 y5))
  | 0 => fun _ _ _ _ _ _ r h => by simp [spec_l1Cur_sureTree.l0] at h
  | k + 1 => by
    have ih0 := spec_l1Cur_sureTree.mono_l k
    · intro y0 y1 y2 y3 y4 y5
      unfold spec_l1Cur_sureTree.l0
      repeat' first
      | (with_reducible exact ih0 _ _ _ _ _ _)
      | (with_reducible exact LeO.refl _)
      | (with_reducible exact LeO.none _)
      | (with_reducible refine LeO.ite ?_ ?_)
      | (with_reducible refine LeO.bind ?_ (fun _ => ?_))
      | exact ih0 _ _ _ _ _ _
      | exact LeO.none _
      | refine LeO.ite ?_ ?_
      | refine LeO.bind ?_ (fun _ => ?_)
theorem spec_l1Cur_sureTree.mono : ∀ a0 a1 a2 a3 k, LeO (spec_l1Cur_sureTree.f k a0 a1 a2 a3) (spec_l1Cur_sureTree.f (k + 1) a0 a1 a2 a3) := by
  intro a0 a1 a2 a3 k
  have ih0 := spec_l1Cur_sureTree.mono_l k
  unfold spec_l1Cur_sureTree.f
  repeat' first
      | (with_reducible exact ih0 _ _ _ _ _ _)
      | (with_reducible exact LeO.refl _)
      | (with_reducible exact LeO.none _)
      | (with_reducible refine LeO.ite ?_ ?_)
      | (with_reducible refine LeO.bind ?_ (fun _ => ?_))
      | exact ih0 _ _ _ _ _ _
      | exact LeO.none _
      | refine LeO.ite ?_ ?_
      | refine LeO.bind ?_ (fun _ => ?_)
set_option maxHeartbeats 8000000 in
set_option maxRecDepth 100000 in
theorem spec_l1Cur_sureTree.calls (k : Nat) (g : Nat) (s0_0 : List Int) (s0_1 : Int) (s0_2 : Int) (a1 : Int) (r1 : ByteArray) (r2 : Int) (r3 : Int) (w0 w : World) (hI : IsS54 w0 w g s0_0 s0_1 s0_2) (hB : Below w0.heap.size w0 w) (h : spec_l1Cur_sureTree.f k s0_0 s0_1 s0_2 a1 = some (r1, r2, r3)) :
    Calls Tryz.prog 91 #[.pointer (some ⟨g, 0, none⟩), .int .i64 a1] w fun e w' => e = .returned (.string r1) ∧ IsS54 w0 w' g s0_0 r2 r3 ∧ Below w0.heap.size w0 w' ∧ KeepBut w w' g none := by
  have HI0 := Aside0.mk hI
  have HK := Aside0.mk (KeepBut.refl w g none)
  have HL := Aside0.mk hB.size
  clear hI
  have HW0 := Aside0.mk hB.size
  have HB := Aside0.mk hB
  clear hB
  have H : (spec_l1Cur_sureTree.l0 k a1 (⟨#[46]⟩ : ByteArray) 0 s0_0 s0_1 s0_2) = some (r1, r2, r3) := h
  clear h
  have H' := Aside0.mk H
  clear H
  go_enter Tryz.func91, Tryz.ntmps91
  go_wp2
  go_loopg [5, 6] k (fun kq v5 v6 w' => ∃ (x5_1 : ByteArray) (x6_1 : Int) (x1001_1 : Int) (x1002_1 : Int), v5 = .string x5_1 ∧ v6 = .int .i64 x6_1 ∧ Aside0 (spec_l1Cur_sureTree.l0 kq a1 x5_1 x6_1 s0_0 x1001_1 x1002_1 = some (r1, r2, r3)) ∧ Aside0 (kq ≤ k) ∧ Aside0 (IsS54 w0 w' g s0_0 x1001_1 x1002_1) ∧ Aside0 (KeepBut w w' g none) ∧ Aside0 (Below w0.heap.size w0 w'))
  case atStart => exact ⟨((⟨#[46]⟩ : ByteArray)), (0), (s0_1), (s0_2), (by first | rfl | (simp; done) | (simp [*]; done)), (by first | rfl | (simp; done) | (simp [*]; done)), H', ⟨Nat.le_refl _⟩, ⟨by exact lI54 HI0.out⟩, ⟨by exact lK HK.out⟩, ⟨by exact lB HB.out⟩⟩
  case round =>
   clear H'
   obtain ⟨x5_1, x6_1, x1001_1, x1002_1, rfl, rfl, HA, HK1, HI0, HK, HB⟩ := hrel
   cases gk with
   | zero => exact absurd HA.out (by simp [spec_l1Cur_sureTree.l0])
   | succ k1 =>
     have H := HA.out
     clear HA
     simp only [spec_l1Cur_sureTree.l0] at H
     by_cases c3 : x6_1 < a1
     · rw [if_pos c3] at H
       have c3b0 : decide (x6_1 < a1) = true := decide_eq_true c3
       clear c3
       replace H := Option.bind_eq_some_iff.mp H
       obtain ⟨⟨t108, t109, t110⟩, A40, H⟩ := H
       replace H : ((spec_trGraft.f x5_1 t108 (⟨#[40, 46, 46, 41]⟩ : ByteArray)).bind fun t111 => (spec_l1Cur_sureTree.l0 k1 a1 t111 (wrap64 (x6_1 + 1)) s0_0 t109 t110)) = some (r1, r2, r3) := H
       have A4 := Aside0.mk A40
       clear A40
       replace H := Option.bind_eq_some_iff.mp H
       obtain ⟨t111, A50, H⟩ := H
       replace H : (spec_l1Cur_sureTree.l0 k1 a1 t111 (wrap64 (x6_1 + 1)) s0_0 t109 t110) = some (r1, r2, r3) := H
       have A5 := Aside0.mk A50
       clear A50
       have H' := Aside0.mk H
       clear H
       go_wp2_with (first | ((with_reducible refine gate_callee (f := 49) rfl ?_); refine goesL_ (some 16) rfl rfl Tryz.func49 (by kernel_rfl) rfl #[.pointer (some ⟨g, 0, none⟩), .int .i64 (wrap64 (x6_1 + 1))] rfl lm ?_; (with_reducible refine (spec_l1Cur_pick.calls g s0_0 x1001_1 x1002_1 (wrap64 (x6_1 + 1)) t108 t109 t110 w0 _ ?side1 ?side2 A4.out).mono ?_); (case side1 => exact lI54 HI0.out); (case side2 => exact lB HB.out); rintro e w6 ⟨rfl, hi, hb, hk⟩; refine ⟨_, rfl, ?_⟩; have n0_ := Aside0.mk (KeepBut.trans (lK HK.out) hk (.inl rfl)); have n1_ := Aside0.mk (hb); have n2_ := Aside0.mk (hi); clear HK HB HI0; have HK := n0_; have HB := n1_; have HI0 := n2_; clear n0_ n1_ n2_; (try clear hb); (try clear hb2); (try clear hk); (try clear hi)) | ((with_reducible refine gate_callee (f := 92) rfl ?_); refine goesL_ (some 17) rfl rfl Tryz.func92 (by kernel_rfl) rfl #[.string x5_1, .int .i64 t108, .string (⟨#[40, 46, 46, 41]⟩ : ByteArray)] rfl lm ?_; (with_reducible refine (spec_trGraft.calls x5_1 t108 (⟨#[40, 46, 46, 41]⟩ : ByteArray) t111 _ A5.out).mono ?_); rintro e w' ⟨rfl, ⟨nd, rfl⟩⟩; refine ⟨_, rfl, ?_⟩))
       go_roundg k1
       case measure => have := HK1.out; omega
       case rel => exact ⟨(t111), (wrap64 (x6_1 + 1)), (t109), (t110), (by first | rfl | (simp; done) | (simp [*]; done)), (by first | rfl | (simp; done) | (simp [*]; done)), H', ⟨by have := HK1.out; omega⟩, ⟨by exact lI54 HI0.out⟩, ⟨by exact lK HK.out⟩, ⟨by exact lB HB.out⟩⟩
     · rw [if_neg c3] at H
       have c3b0 : decide (x6_1 < a1) = false := decide_eq_false c3
       clear c3
       simp only [Option.some.injEq, Prod.mk.injEq] at H
       obtain ⟨rfl, rfl, rfl⟩ := H
       go_wp2
       go_ret
       exact ⟨lx, by exact lI54 HI0.out, by exact lB HB.out, by exact lK HK.out⟩
def spec_l1Cur_surePair.f (k : Nat) (s0_0 : List Int) (s0_1 : Int) (s0_2 : Int) (a1 : Int) : Option (ByteArray × ByteArray × Int × Int) := (spec_l1Cur_sureTree.f k s0_0 s0_1 s0_2 a1).bind fun bt113 => ((spec_l1Cur_sureTree.f k s0_0 bt113.2.1 bt113.2.2 a1).bind fun bt116 => (some (bt113.1, bt116.1, bt116.2.1, bt116.2.2)))
theorem spec_l1Cur_surePair.mono : ∀ a0 a1 a2 a3 k, LeO (spec_l1Cur_surePair.f k a0 a1 a2 a3) (spec_l1Cur_surePair.f (k + 1) a0 a1 a2 a3) := by
  intro a0 a1 a2 a3 k
  unfold spec_l1Cur_surePair.f
  repeat' first
      | (with_reducible exact spec_l1Cur_sureTree.mono _ _ _ _ _)
      | (with_reducible exact LeO.refl _)
      | (with_reducible exact LeO.none _)
      | (with_reducible refine LeO.ite ?_ ?_)
      | (with_reducible refine LeO.bind ?_ (fun _ => ?_))
      | exact spec_l1Cur_sureTree.mono _ _ _ _ _
      | exact LeO.none _
      | refine LeO.ite ?_ ?_
      | refine LeO.bind ?_ (fun _ => ?_)
set_option maxHeartbeats 8000000 in
set_option maxRecDepth 100000 in
theorem spec_l1Cur_surePair.calls (k : Nat) (g : Nat) (s0_0 : List Int) (s0_1 : Int) (s0_2 : Int) (a1 : Int) (r1 : ByteArray) (r2 : ByteArray) (r3 : Int) (r4 : Int) (w0 w : World) (hI : IsS54 w0 w g s0_0 s0_1 s0_2) (hB : Below w0.heap.size w0 w) (h : spec_l1Cur_surePair.f k s0_0 s0_1 s0_2 a1 = some (r1, r2, r3, r4)) :
    Calls Tryz.prog 65 #[.pointer (some ⟨g, 0, none⟩), .int .i64 a1] w fun e w' => e = .returned (.agg #[.string r1, .string r2]) ∧ IsS54 w0 w' g s0_0 r3 r4 ∧ Below w0.heap.size w0 w' ∧ KeepBut w w' g none := by
  have hu25 := Tryz.underlying25
  have HI0 := Aside0.mk hI
  have HK := Aside0.mk (KeepBut.refl w g none)
  have HL := Aside0.mk hB.size
  clear hI
  have HW0 := Aside0.mk hB.size
  have HB := Aside0.mk hB
  clear hB
  have H : ((spec_l1Cur_sureTree.f k s0_0 s0_1 s0_2 a1).bind fun bt113 => ((spec_l1Cur_sureTree.f k s0_0 bt113.2.1 bt113.2.2 a1).bind fun bt116 => (some (bt113.1, bt116.1, bt116.2.1, bt116.2.2)))) = some (r1, r2, r3, r4) := h
  clear h
  replace H := Option.bind_eq_some_iff.mp H
  obtain ⟨⟨t113, t114, t115⟩, A30, H⟩ := H
  replace H : ((spec_l1Cur_sureTree.f k s0_0 t114 t115 a1).bind fun bt116 => (some (t113, bt116.1, bt116.2.1, bt116.2.2))) = some (r1, r2, r3, r4) := H
  have A3 := Aside0.mk A30
  clear A30
  replace H := Option.bind_eq_some_iff.mp H
  obtain ⟨⟨t116, t117, t118⟩, A40, H⟩ := H
  replace H : (some (t113, t116, t117, t118)) = some (r1, r2, r3, r4) := H
  have A4 := Aside0.mk A40
  clear A40
  simp only [Option.some.injEq, Prod.mk.injEq] at H
  obtain ⟨rfl, rfl, rfl, rfl⟩ := H
  go_enter Tryz.func65, Tryz.ntmps65
  go_wp2_with (first | ((with_reducible refine gate_dst (N := 4) rfl ?_); refine box_event ?hg (N := 4) ?hd (cs := #[.string (⟨#[]⟩ : ByteArray), .string (⟨#[]⟩ : ByteArray)]) (t := 25) ?hr ?_; (case hd => rfl); (case hg => rfl); (case hr => exact lr); intro gb112 hg w5 hbox hb; have n0_ := Aside0.mk (IsS54.below (lI54 HI0.out) hb); have n1_ := Aside0.mk (KeepBut.trans (lK HK.out) (KeepBut.of_below hb g none) (.inl rfl)); have n2_ := Aside0.mk (below_step (lB HB.out) hb); have n3_ := Aside0.mk (hbox); have n4_ := Aside0.mk ((by rw [hg]; exact (keep_size (w := w) (g := g) (row := none) (lK HK.out)) : w.heap.size ≤ gb112)); have n5_ := Aside0.mk ((Nat.le_trans HW0.out (by rw [hg]; exact (keep_size (w := w) (g := g) (row := none) (lK HK.out)) : w.heap.size ≤ gb112) : w0.heap.size ≤ gb112)); have n6_ := Aside0.mk ((by rw [hg]; exact Nat.ne_of_lt (IsS54.lt (show IsS54 w0 _ g s0_0 s0_1 s0_2 from by exact lI54 HI0.out)) : g ≠ gb112)); have n7_ := Aside0.mk ((by rw [hg]; exact Nat.ne_of_gt (IsS54.lt (show IsS54 w0 _ g s0_0 s0_1 s0_2 from by exact lI54 HI0.out)) : gb112 ≠ g)); clear HI0 HK HB; have HI0 := n0_; have HK := n1_; have HB := n2_; have BK112 := n3_; have GW112 := n4_; have GE112 := n5_; have NB0_112 := n6_; have NB112_0 := n7_; clear n0_ n1_ n2_ n3_ n4_ n5_ n6_ n7_; clear hb hbox hg) | ((with_reducible refine gate_callee (f := 91) rfl ?_); refine goesL_ (some 7) rfl rfl Tryz.func91 (by kernel_rfl) rfl #[.pointer (some ⟨g, 0, none⟩), .int .i64 a1] rfl lm ?_; (with_reducible refine (spec_l1Cur_sureTree.calls k g s0_0 s0_1 s0_2 a1 t113 t114 t115 w0 _ ?side1 ?side2 A3.out).mono ?_); (case side1 => exact lI54 HI0.out); (case side2 => exact lB HB.out); rintro e w6 ⟨rfl, hi, hb, hk⟩; refine ⟨_, rfl, ?_⟩; have n0_ := Aside0.mk (KeepBut.blk hk (g' := gb112) (o := .cells #[.string (⟨#[]⟩ : ByteArray), .string (⟨#[]⟩ : ByteArray)] 25 (0, 0)) (lb BK112.out) NB112_0.out (by simp)); have n1_ := Aside0.mk (KeepBut.trans (lK HK.out) hk (.inl rfl)); have n2_ := Aside0.mk (hb); have n3_ := Aside0.mk (hi); clear BK112 HK HB HI0; have BK112 := n0_; have HK := n1_; have HB := n2_; have HI0 := n3_; clear n0_ n1_ n2_ n3_; (try clear hb); (try clear hb2); (try clear hk); (try clear hi)) | ((with_reducible refine gate_callee (f := 91) rfl ?_); refine goesL_ (some 10) rfl rfl Tryz.func91 (by kernel_rfl) rfl #[.pointer (some ⟨g, 0, none⟩), .int .i64 a1] rfl lm ?_; (with_reducible refine (spec_l1Cur_sureTree.calls k g s0_0 t114 t115 a1 t116 t117 t118 w0 _ ?side1 ?side2 A4.out).mono ?_); (case side1 => exact lI54 HI0.out); (case side2 => exact lB HB.out); rintro e w7 ⟨rfl, hi, hb, hk⟩; refine ⟨_, rfl, ?_⟩; have n0_ := Aside0.mk (KeepBut.blk hk (g' := gb112) (o := .cells #[.string (⟨#[]⟩ : ByteArray), .string (⟨#[]⟩ : ByteArray)] 25 (0, 0)) (lb BK112.out) NB112_0.out (by simp)); have n1_ := Aside0.mk (KeepBut.trans (lK HK.out) hk (.inl rfl)); have n2_ := Aside0.mk (hb); have n3_ := Aside0.mk (hi); clear BK112 HK HB HI0; have BK112 := n0_; have HK := n1_; have HB := n2_; have HI0 := n3_; clear n0_ n1_ n2_ n3_; (try clear hb); (try clear hb2); (try clear hk); (try clear hi); have hnb8 := NB112_0.out; have hnc8 := NB0_112.out; have hcz9_0 : w7.cell? ⟨gb112, 0, none⟩ = some (.string (⟨#[]⟩ : ByteArray)) := (blk_cell BK112.out 0).trans rfl; have hcz9_1 : w7.cell? ⟨gb112, 1, none⟩ = some (.string (⟨#[]⟩ : ByteArray)) := (blk_cell BK112.out 1).trans rfl; have hfz9_0 := blk_frozen BK112.out 0; have hfz9_1 := blk_frozen BK112.out 1))
  refine bodyPost_ret (results_cell_row rfl _ _ gb112 25 #[.string t113, .string t116] (0, 0) _ rfl (by (with_reducible repeat (first | refine blk_drewN ?_ _ | refine blk_drew ?_ | refine blk_alloc ?_ _)); refine blk_put (cs := #[.string t113, .string (⟨#[]⟩ : ByteArray)]) ?_ 1 _ rfl; (with_reducible repeat (first | refine blk_drewN ?_ _ | refine blk_drew ?_ | refine blk_alloc ?_ _)); refine blk_put (cs := #[.string (⟨#[]⟩ : ByteArray), .string (⟨#[]⟩ : ByteArray)]) ?_ 0 _ rfl; exact lb BK112.out) Tryz.underlying25 rfl (by kernel_rfl)) rfl ?_
  exact ⟨lx, by exact lI54 HI0.out, by exact lB HB.out, by exact lK HK.out⟩
def spec_l1Cur_tree.f (k : Nat) (s0_0 : List Int) (s0_1 : Int) (s0_2 : Int) (a1 : Int) : Option (ByteArray × Int × Int) := (spec_l1Cur_pick.f s0_0 s0_1 s0_2 (wrap64 (a1 + 1))).bind fun bt134 => ((spec_l1Cur_sureTree.f k s0_0 bt134.2.1 bt134.2.2 bt134.1).bind fun bt137 => ((spec_l1Cur_pick.f s0_0 bt137.2.1 bt137.2.2 14).bind fun bt140 => (if bt140.1 = 0 then ((spec_l1Cur_spoilt.f k s0_0 bt140.2.1 bt140.2.2 bt137.1 (⟨#[40, 46, 41]⟩ : ByteArray)).bind fun bt143 => (some (bt143.1, bt143.2.1, bt143.2.2))) else (if bt140.1 = 1 then ((spec_l1Cur_pick.f s0_0 bt140.2.1 bt140.2.2 2).bind fun bt146 => ((spec_l1Cur_sureTree.f k s0_0 bt146.2.1 bt146.2.2 (wrap64 (8 + bt146.1))).bind fun bt149 => (some (bt149.1, bt149.2.1, bt149.2.2)))) else (some (bt137.1, bt140.2.1, bt140.2.2))))))
theorem spec_l1Cur_tree.mono : ∀ a0 a1 a2 a3 k, LeO (spec_l1Cur_tree.f k a0 a1 a2 a3) (spec_l1Cur_tree.f (k + 1) a0 a1 a2 a3) := by
  intro a0 a1 a2 a3 k
  unfold spec_l1Cur_tree.f
  repeat' first
      | (with_reducible exact spec_l1Cur_spoilt.mono _ _ _ _ _ _)
      | (with_reducible exact spec_l1Cur_sureTree.mono _ _ _ _ _)
      | (with_reducible exact LeO.refl _)
      | (with_reducible exact LeO.none _)
      | (with_reducible refine LeO.ite ?_ ?_)
      | (with_reducible refine LeO.bind ?_ (fun _ => ?_))
      | exact spec_l1Cur_spoilt.mono _ _ _ _ _ _
      | exact spec_l1Cur_sureTree.mono _ _ _ _ _
      | exact LeO.none _
      | refine LeO.ite ?_ ?_
      | refine LeO.bind ?_ (fun _ => ?_)
set_option maxHeartbeats 8000000 in
set_option maxRecDepth 100000 in
theorem spec_l1Cur_tree.calls (k : Nat) (g : Nat) (s0_0 : List Int) (s0_1 : Int) (s0_2 : Int) (a1 : Int) (r1 : ByteArray) (r2 : Int) (r3 : Int) (w0 w : World) (hI : IsS54 w0 w g s0_0 s0_1 s0_2) (hB : Below w0.heap.size w0 w) (h : spec_l1Cur_tree.f k s0_0 s0_1 s0_2 a1 = some (r1, r2, r3)) :
    Calls Tryz.prog 66 #[.pointer (some ⟨g, 0, none⟩), .int .i64 a1] w fun e w' => e = .returned (.string r1) ∧ IsS54 w0 w' g s0_0 r2 r3 ∧ Below w0.heap.size w0 w' ∧ KeepBut w w' g none := by
  have HI0 := Aside0.mk hI
  have HK := Aside0.mk (KeepBut.refl w g none)
  have HL := Aside0.mk hB.size
  clear hI
  have HW0 := Aside0.mk hB.size
  have HB := Aside0.mk hB
  clear hB
  have H : ((spec_l1Cur_pick.f s0_0 s0_1 s0_2 (wrap64 (a1 + 1))).bind fun bt134 => ((spec_l1Cur_sureTree.f k s0_0 bt134.2.1 bt134.2.2 bt134.1).bind fun bt137 => ((spec_l1Cur_pick.f s0_0 bt137.2.1 bt137.2.2 14).bind fun bt140 => (if bt140.1 = 0 then ((spec_l1Cur_spoilt.f k s0_0 bt140.2.1 bt140.2.2 bt137.1 (⟨#[40, 46, 41]⟩ : ByteArray)).bind fun bt143 => (some (bt143.1, bt143.2.1, bt143.2.2))) else (if bt140.1 = 1 then ((spec_l1Cur_pick.f s0_0 bt140.2.1 bt140.2.2 2).bind fun bt146 => ((spec_l1Cur_sureTree.f k s0_0 bt146.2.1 bt146.2.2 (wrap64 (8 + bt146.1))).bind fun bt149 => (some (bt149.1, bt149.2.1, bt149.2.2)))) else (some (bt137.1, bt140.2.1, bt140.2.2))))))) = some (r1, r2, r3) := h
  clear h
  replace H := Option.bind_eq_some_iff.mp H
  obtain ⟨⟨t134, t135, t136⟩, A30, H⟩ := H
  replace H : ((spec_l1Cur_sureTree.f k s0_0 t135 t136 t134).bind fun bt137 => ((spec_l1Cur_pick.f s0_0 bt137.2.1 bt137.2.2 14).bind fun bt140 => (if bt140.1 = 0 then ((spec_l1Cur_spoilt.f k s0_0 bt140.2.1 bt140.2.2 bt137.1 (⟨#[40, 46, 41]⟩ : ByteArray)).bind fun bt143 => (some (bt143.1, bt143.2.1, bt143.2.2))) else (if bt140.1 = 1 then ((spec_l1Cur_pick.f s0_0 bt140.2.1 bt140.2.2 2).bind fun bt146 => ((spec_l1Cur_sureTree.f k s0_0 bt146.2.1 bt146.2.2 (wrap64 (8 + bt146.1))).bind fun bt149 => (some (bt149.1, bt149.2.1, bt149.2.2)))) else (some (bt137.1, bt140.2.1, bt140.2.2)))))) = some (r1, r2, r3) := H
  have A3 := Aside0.mk A30
  clear A30
  replace H := Option.bind_eq_some_iff.mp H
  obtain ⟨⟨t137, t138, t139⟩, A40, H⟩ := H
  replace H : ((spec_l1Cur_pick.f s0_0 t138 t139 14).bind fun bt140 => (if bt140.1 = 0 then ((spec_l1Cur_spoilt.f k s0_0 bt140.2.1 bt140.2.2 t137 (⟨#[40, 46, 41]⟩ : ByteArray)).bind fun bt143 => (some (bt143.1, bt143.2.1, bt143.2.2))) else (if bt140.1 = 1 then ((spec_l1Cur_pick.f s0_0 bt140.2.1 bt140.2.2 2).bind fun bt146 => ((spec_l1Cur_sureTree.f k s0_0 bt146.2.1 bt146.2.2 (wrap64 (8 + bt146.1))).bind fun bt149 => (some (bt149.1, bt149.2.1, bt149.2.2)))) else (some (t137, bt140.2.1, bt140.2.2))))) = some (r1, r2, r3) := H
  have A4 := Aside0.mk A40
  clear A40
  replace H := Option.bind_eq_some_iff.mp H
  obtain ⟨⟨t140, t141, t142⟩, A50, H⟩ := H
  replace H : (if t140 = 0 then ((spec_l1Cur_spoilt.f k s0_0 t141 t142 t137 (⟨#[40, 46, 41]⟩ : ByteArray)).bind fun bt143 => (some (bt143.1, bt143.2.1, bt143.2.2))) else (if t140 = 1 then ((spec_l1Cur_pick.f s0_0 t141 t142 2).bind fun bt146 => ((spec_l1Cur_sureTree.f k s0_0 bt146.2.1 bt146.2.2 (wrap64 (8 + bt146.1))).bind fun bt149 => (some (bt149.1, bt149.2.1, bt149.2.2)))) else (some (t137, t141, t142)))) = some (r1, r2, r3) := H
  have A5 := Aside0.mk A50
  clear A50
  by_cases c6 : t140 = 0
  · rw [if_pos c6] at H
    have c6b0 : (t140 == 0) = true := beq_iff_eq.mpr c6
    have c6b1 : (t140 != 0) = false := bne_eq_false_iff_eq.mpr c6
    clear c6
    replace H := Option.bind_eq_some_iff.mp H
    obtain ⟨⟨t143, t144, t145⟩, A70, H⟩ := H
    replace H : (some (t143, t144, t145)) = some (r1, r2, r3) := H
    have A7 := Aside0.mk A70
    clear A70
    simp only [Option.some.injEq, Prod.mk.injEq] at H
    obtain ⟨rfl, rfl, rfl⟩ := H
    go_enter Tryz.func66, Tryz.ntmps66
    go_wp2_with (first | ((with_reducible refine gate_callee (f := 49) rfl ?_); refine goesL_ (some 10) rfl rfl Tryz.func49 (by kernel_rfl) rfl #[.pointer (some ⟨g, 0, none⟩), .int .i64 (wrap64 (a1 + 1))] rfl lm ?_; (with_reducible refine (spec_l1Cur_pick.calls g s0_0 s0_1 s0_2 (wrap64 (a1 + 1)) t134 t135 t136 w0 _ ?side1 ?side2 A3.out).mono ?_); (case side1 => exact lI54 HI0.out); (case side2 => exact lB HB.out); rintro e w8 ⟨rfl, hi, hb, hk⟩; refine ⟨_, rfl, ?_⟩; have n0_ := Aside0.mk (KeepBut.trans (lK HK.out) hk (.inl rfl)); have n1_ := Aside0.mk (hb); have n2_ := Aside0.mk (hi); clear HK HB HI0; have HK := n0_; have HB := n1_; have HI0 := n2_; clear n0_ n1_ n2_; (try clear hb); (try clear hb2); (try clear hk); (try clear hi)) | ((with_reducible refine gate_callee (f := 91) rfl ?_); refine goesL_ (some 11) rfl rfl Tryz.func91 (by kernel_rfl) rfl #[.pointer (some ⟨g, 0, none⟩), .int .i64 t134] rfl lm ?_; (with_reducible refine (spec_l1Cur_sureTree.calls k g s0_0 t135 t136 t134 t137 t138 t139 w0 _ ?side1 ?side2 A4.out).mono ?_); (case side1 => exact lI54 HI0.out); (case side2 => exact lB HB.out); rintro e w9 ⟨rfl, hi, hb, hk⟩; refine ⟨_, rfl, ?_⟩; have n0_ := Aside0.mk (KeepBut.trans (lK HK.out) hk (.inl rfl)); have n1_ := Aside0.mk (hb); have n2_ := Aside0.mk (hi); clear HK HB HI0; have HK := n0_; have HB := n1_; have HI0 := n2_; clear n0_ n1_ n2_; (try clear hb); (try clear hb2); (try clear hk); (try clear hi)) | ((with_reducible refine gate_callee (f := 49) rfl ?_); refine goesL_ (some 13) rfl rfl Tryz.func49 (by kernel_rfl) rfl #[.pointer (some ⟨g, 0, none⟩), .int .i64 14] rfl lm ?_; (with_reducible refine (spec_l1Cur_pick.calls g s0_0 t138 t139 14 t140 t141 t142 w0 _ ?side1 ?side2 A5.out).mono ?_); (case side1 => exact lI54 HI0.out); (case side2 => exact lB HB.out); rintro e w10 ⟨rfl, hi, hb, hk⟩; refine ⟨_, rfl, ?_⟩; have n0_ := Aside0.mk (KeepBut.trans (lK HK.out) hk (.inl rfl)); have n1_ := Aside0.mk (hb); have n2_ := Aside0.mk (hi); clear HK HB HI0; have HK := n0_; have HB := n1_; have HI0 := n2_; clear n0_ n1_ n2_; (try clear hb); (try clear hb2); (try clear hk); (try clear hi)) | ((with_reducible refine gate_callee (f := 67) rfl ?_); refine goesL_ (some 18) rfl rfl Tryz.func67 (by kernel_rfl) rfl #[.pointer (some ⟨g, 0, none⟩), .string t137, .string (⟨#[40, 46, 41]⟩ : ByteArray)] rfl lm ?_; (with_reducible refine (spec_l1Cur_spoilt.calls k g s0_0 t141 t142 t137 (⟨#[40, 46, 41]⟩ : ByteArray) t143 t144 t145 w0 _ ?side1 ?side2 A7.out).mono ?_); (case side1 => exact lI54 HI0.out); (case side2 => exact lB HB.out); rintro e w11 ⟨rfl, hi, hb, hk⟩; refine ⟨_, rfl, ?_⟩; have n0_ := Aside0.mk (KeepBut.trans (lK HK.out) hk (.inl rfl)); have n1_ := Aside0.mk (hb); have n2_ := Aside0.mk (hi); clear HK HB HI0; have HK := n0_; have HB := n1_; have HI0 := n2_; clear n0_ n1_ n2_; (try clear hb); (try clear hb2); (try clear hk); (try clear hi)))
    go_ret
    exact ⟨lx, by exact lI54 HI0.out, by exact lB HB.out, by exact lK HK.out⟩
  rw [if_neg c6] at H
  have c6b0 : (t140 == 0) = false := beq_eq_false_iff_ne.mpr c6
  have c6b1 : (t140 != 0) = true := bne_iff_ne.mpr c6
  by_cases c12 : t140 = 1
  rotate_left
  · rw [if_neg c12] at H
    have c12b0 : (t140 == 1) = false := beq_eq_false_iff_ne.mpr c12
    have c12b1 : (t140 != 1) = true := bne_iff_ne.mpr c12
    simp only [Option.some.injEq, Prod.mk.injEq] at H
    obtain ⟨rfl, rfl, rfl⟩ := H
    go_enter Tryz.func66, Tryz.ntmps66
    go_wp2_with (first | ((with_reducible refine gate_callee (f := 49) rfl ?_); refine goesL_ (some 10) rfl rfl Tryz.func49 (by kernel_rfl) rfl #[.pointer (some ⟨g, 0, none⟩), .int .i64 (wrap64 (a1 + 1))] rfl lm ?_; (with_reducible refine (spec_l1Cur_pick.calls g s0_0 s0_1 s0_2 (wrap64 (a1 + 1)) t134 t135 t136 w0 _ ?side1 ?side2 A3.out).mono ?_); (case side1 => exact lI54 HI0.out); (case side2 => exact lB HB.out); rintro e w20 ⟨rfl, hi, hb, hk⟩; refine ⟨_, rfl, ?_⟩; have n0_ := Aside0.mk (KeepBut.trans (lK HK.out) hk (.inl rfl)); have n1_ := Aside0.mk (hb); have n2_ := Aside0.mk (hi); clear HK HB HI0; have HK := n0_; have HB := n1_; have HI0 := n2_; clear n0_ n1_ n2_; (try clear hb); (try clear hb2); (try clear hk); (try clear hi)) | ((with_reducible refine gate_callee (f := 91) rfl ?_); refine goesL_ (some 11) rfl rfl Tryz.func91 (by kernel_rfl) rfl #[.pointer (some ⟨g, 0, none⟩), .int .i64 t134] rfl lm ?_; (with_reducible refine (spec_l1Cur_sureTree.calls k g s0_0 t135 t136 t134 t137 t138 t139 w0 _ ?side1 ?side2 A4.out).mono ?_); (case side1 => exact lI54 HI0.out); (case side2 => exact lB HB.out); rintro e w21 ⟨rfl, hi, hb, hk⟩; refine ⟨_, rfl, ?_⟩; have n0_ := Aside0.mk (KeepBut.trans (lK HK.out) hk (.inl rfl)); have n1_ := Aside0.mk (hb); have n2_ := Aside0.mk (hi); clear HK HB HI0; have HK := n0_; have HB := n1_; have HI0 := n2_; clear n0_ n1_ n2_; (try clear hb); (try clear hb2); (try clear hk); (try clear hi)) | ((with_reducible refine gate_callee (f := 49) rfl ?_); refine goesL_ (some 13) rfl rfl Tryz.func49 (by kernel_rfl) rfl #[.pointer (some ⟨g, 0, none⟩), .int .i64 14] rfl lm ?_; (with_reducible refine (spec_l1Cur_pick.calls g s0_0 t138 t139 14 t140 t141 t142 w0 _ ?side1 ?side2 A5.out).mono ?_); (case side1 => exact lI54 HI0.out); (case side2 => exact lB HB.out); rintro e w22 ⟨rfl, hi, hb, hk⟩; refine ⟨_, rfl, ?_⟩; have n0_ := Aside0.mk (KeepBut.trans (lK HK.out) hk (.inl rfl)); have n1_ := Aside0.mk (hb); have n2_ := Aside0.mk (hi); clear HK HB HI0; have HK := n0_; have HB := n1_; have HI0 := n2_; clear n0_ n1_ n2_; (try clear hb); (try clear hb2); (try clear hk); (try clear hi)))
    go_ret
    exact ⟨lx, by exact lI54 HI0.out, by exact lB HB.out, by exact lK HK.out⟩

  rw [if_pos c12] at H
  have c12b0 : (t140 == 1) = true := beq_iff_eq.mpr c12
  have c12b1 : (t140 != 1) = false := bne_eq_false_iff_eq.mpr c12
  clear c12
  replace H := Option.bind_eq_some_iff.mp H
  obtain ⟨⟨t146, t147, t148⟩, A130, H⟩ := H
  replace H : ((spec_l1Cur_sureTree.f k s0_0 t147 t148 (wrap64 (8 + t146))).bind fun bt149 => (some (bt149.1, bt149.2.1, bt149.2.2))) = some (r1, r2, r3) := H
  have A13 := Aside0.mk A130
  clear A130
  replace H := Option.bind_eq_some_iff.mp H
  obtain ⟨⟨t149, t150, t151⟩, A140, H⟩ := H
  replace H : (some (t149, t150, t151)) = some (r1, r2, r3) := H
  have A14 := Aside0.mk A140
  clear A140
  simp only [Option.some.injEq, Prod.mk.injEq] at H
  obtain ⟨rfl, rfl, rfl⟩ := H
  go_enter Tryz.func66, Tryz.ntmps66
  go_wp2_with (first | ((with_reducible refine gate_callee (f := 49) rfl ?_); refine goesL_ (some 10) rfl rfl Tryz.func49 (by kernel_rfl) rfl #[.pointer (some ⟨g, 0, none⟩), .int .i64 (wrap64 (a1 + 1))] rfl lm ?_; (with_reducible refine (spec_l1Cur_pick.calls g s0_0 s0_1 s0_2 (wrap64 (a1 + 1)) t134 t135 t136 w0 _ ?side1 ?side2 A3.out).mono ?_); (case side1 => exact lI54 HI0.out); (case side2 => exact lB HB.out); rintro e w15 ⟨rfl, hi, hb, hk⟩; refine ⟨_, rfl, ?_⟩; have n0_ := Aside0.mk (KeepBut.trans (lK HK.out) hk (.inl rfl)); have n1_ := Aside0.mk (hb); have n2_ := Aside0.mk (hi); clear HK HB HI0; have HK := n0_; have HB := n1_; have HI0 := n2_; clear n0_ n1_ n2_; (try clear hb); (try clear hb2); (try clear hk); (try clear hi)) | ((with_reducible refine gate_callee (f := 91) rfl ?_); refine goesL_ (some 11) rfl rfl Tryz.func91 (by kernel_rfl) rfl #[.pointer (some ⟨g, 0, none⟩), .int .i64 t134] rfl lm ?_; (with_reducible refine (spec_l1Cur_sureTree.calls k g s0_0 t135 t136 t134 t137 t138 t139 w0 _ ?side1 ?side2 A4.out).mono ?_); (case side1 => exact lI54 HI0.out); (case side2 => exact lB HB.out); rintro e w16 ⟨rfl, hi, hb, hk⟩; refine ⟨_, rfl, ?_⟩; have n0_ := Aside0.mk (KeepBut.trans (lK HK.out) hk (.inl rfl)); have n1_ := Aside0.mk (hb); have n2_ := Aside0.mk (hi); clear HK HB HI0; have HK := n0_; have HB := n1_; have HI0 := n2_; clear n0_ n1_ n2_; (try clear hb); (try clear hb2); (try clear hk); (try clear hi)) | ((with_reducible refine gate_callee (f := 49) rfl ?_); refine goesL_ (some 13) rfl rfl Tryz.func49 (by kernel_rfl) rfl #[.pointer (some ⟨g, 0, none⟩), .int .i64 14] rfl lm ?_; (with_reducible refine (spec_l1Cur_pick.calls g s0_0 t138 t139 14 t140 t141 t142 w0 _ ?side1 ?side2 A5.out).mono ?_); (case side1 => exact lI54 HI0.out); (case side2 => exact lB HB.out); rintro e w17 ⟨rfl, hi, hb, hk⟩; refine ⟨_, rfl, ?_⟩; have n0_ := Aside0.mk (KeepBut.trans (lK HK.out) hk (.inl rfl)); have n1_ := Aside0.mk (hb); have n2_ := Aside0.mk (hi); clear HK HB HI0; have HK := n0_; have HB := n1_; have HI0 := n2_; clear n0_ n1_ n2_; (try clear hb); (try clear hb2); (try clear hk); (try clear hi)) | ((with_reducible refine gate_callee (f := 49) rfl ?_); refine goesL_ (some 23) rfl rfl Tryz.func49 (by kernel_rfl) rfl #[.pointer (some ⟨g, 0, none⟩), .int .i64 2] rfl lm ?_; (with_reducible refine (spec_l1Cur_pick.calls g s0_0 t141 t142 2 t146 t147 t148 w0 _ ?side1 ?side2 A13.out).mono ?_); (case side1 => exact lI54 HI0.out); (case side2 => exact lB HB.out); rintro e w18 ⟨rfl, hi, hb, hk⟩; refine ⟨_, rfl, ?_⟩; have n0_ := Aside0.mk (KeepBut.trans (lK HK.out) hk (.inl rfl)); have n1_ := Aside0.mk (hb); have n2_ := Aside0.mk (hi); clear HK HB HI0; have HK := n0_; have HB := n1_; have HI0 := n2_; clear n0_ n1_ n2_; (try clear hb); (try clear hb2); (try clear hk); (try clear hi)) | ((with_reducible refine gate_callee (f := 91) rfl ?_); refine goesL_ (some 25) rfl rfl Tryz.func91 (by kernel_rfl) rfl #[.pointer (some ⟨g, 0, none⟩), .int .i64 (wrap64 (8 + t146))] rfl lm ?_; (with_reducible refine (spec_l1Cur_sureTree.calls k g s0_0 t147 t148 (wrap64 (8 + t146)) t149 t150 t151 w0 _ ?side1 ?side2 A14.out).mono ?_); (case side1 => exact lI54 HI0.out); (case side2 => exact lB HB.out); rintro e w19 ⟨rfl, hi, hb, hk⟩; refine ⟨_, rfl, ?_⟩; have n0_ := Aside0.mk (KeepBut.trans (lK HK.out) hk (.inl rfl)); have n1_ := Aside0.mk (hb); have n2_ := Aside0.mk (hi); clear HK HB HI0; have HK := n0_; have HB := n1_; have HI0 := n2_; clear n0_ n1_ n2_; (try clear hb); (try clear hb2); (try clear hk); (try clear hi)))
  go_ret
  exact ⟨lx, by exact lI54 HI0.out, by exact lB HB.out, by exact lK HK.out⟩
def spec_l1Cur_pair.f (k : Nat) (s0_0 : List Int) (s0_1 : Int) (s0_2 : Int) (a1 : Int) : Option (ByteArray × ByteArray × Int × Int) := (spec_l1Cur_pick.f s0_0 s0_1 s0_2 (wrap64 (a1 + 1))).bind fun bt153 => ((spec_l1Cur_surePair.f k s0_0 bt153.2.1 bt153.2.2 bt153.1).bind fun bt156 => ((spec_l1Cur_pick.f s0_0 bt156.2.2.1 bt156.2.2.2 14).bind fun bt161 => (if bt161.1 = 0 then ((spec_l1Cur_tree.f k s0_0 bt161.2.1 bt161.2.2 a1).bind fun bt164 => (some (bt156.1, bt164.1, bt164.2.1, bt164.2.2))) else (if bt161.1 = 1 then ((spec_l1Cur_spoilt.f k s0_0 bt161.2.1 bt161.2.2 bt156.1 (⟨#[40, 46, 41]⟩ : ByteArray)).bind fun bt167 => (some (bt167.1, bt156.2.1, bt167.2.1, bt167.2.2))) else (if bt161.1 = 2 then ((spec_l1Cur_pick.f s0_0 bt161.2.1 bt161.2.2 2).bind fun bt170 => ((spec_l1Cur_surePair.f k s0_0 bt170.2.1 bt170.2.2 (wrap64 (8 + bt170.1))).bind fun bt173 => (some (bt173.1, bt173.2.1, bt173.2.2.1, bt173.2.2.2)))) else (if bt161.1 = 3 then ((spec_l1Cur_pick.f s0_0 bt161.2.1 bt161.2.2 4).bind fun bt177 => ((spec_prGenerator.f bt177.1).bind fun bt180 => (some (bt180.1, bt180.2, bt177.2.1, bt177.2.2)))) else (some (bt156.1, bt156.2.1, bt161.2.1, bt161.2.2))))))))
theorem spec_l1Cur_pair.mono : ∀ a0 a1 a2 a3 k, LeO (spec_l1Cur_pair.f k a0 a1 a2 a3) (spec_l1Cur_pair.f (k + 1) a0 a1 a2 a3) := by
  intro a0 a1 a2 a3 k
  unfold spec_l1Cur_pair.f
  repeat' first
      | (with_reducible exact spec_l1Cur_spoilt.mono _ _ _ _ _ _)
      | (with_reducible exact spec_l1Cur_surePair.mono _ _ _ _ _)
      | (with_reducible exact spec_l1Cur_tree.mono _ _ _ _ _)
      | (with_reducible exact LeO.refl _)
      | (with_reducible exact LeO.none _)
      | (with_reducible refine LeO.ite ?_ ?_)
      | (with_reducible refine LeO.bind ?_ (fun _ => ?_))
      | exact spec_l1Cur_spoilt.mono _ _ _ _ _ _
      | exact spec_l1Cur_surePair.mono _ _ _ _ _
      | exact spec_l1Cur_tree.mono _ _ _ _ _
      | exact LeO.none _
      | refine LeO.ite ?_ ?_
      | refine LeO.bind ?_ (fun _ => ?_)
set_option maxHeartbeats 8000000 in
set_option maxRecDepth 100000 in
theorem spec_l1Cur_pair.calls (k : Nat) (g : Nat) (s0_0 : List Int) (s0_1 : Int) (s0_2 : Int) (a1 : Int) (r1 : ByteArray) (r2 : ByteArray) (r3 : Int) (r4 : Int) (w0 w : World) (hI : IsS54 w0 w g s0_0 s0_1 s0_2) (hB : Below w0.heap.size w0 w) (h : spec_l1Cur_pair.f k s0_0 s0_1 s0_2 a1 = some (r1, r2, r3, r4)) :
    Calls Tryz.prog 25 #[.pointer (some ⟨g, 0, none⟩), .int .i64 a1] w fun e w' => e = .returned (.agg #[.string r1, .string r2]) ∧ IsS54 w0 w' g s0_0 r3 r4 ∧ Below w0.heap.size w0 w' ∧ KeepBut w w' g none := by
  have hu25 := Tryz.underlying25
  have HI0 := Aside0.mk hI
  have HK := Aside0.mk (KeepBut.refl w g none)
  have HL := Aside0.mk hB.size
  clear hI
  have HW0 := Aside0.mk hB.size
  have HB := Aside0.mk hB
  clear hB
  have H : ((spec_l1Cur_pick.f s0_0 s0_1 s0_2 (wrap64 (a1 + 1))).bind fun bt153 => ((spec_l1Cur_surePair.f k s0_0 bt153.2.1 bt153.2.2 bt153.1).bind fun bt156 => ((spec_l1Cur_pick.f s0_0 bt156.2.2.1 bt156.2.2.2 14).bind fun bt161 => (if bt161.1 = 0 then ((spec_l1Cur_tree.f k s0_0 bt161.2.1 bt161.2.2 a1).bind fun bt164 => (some (bt156.1, bt164.1, bt164.2.1, bt164.2.2))) else (if bt161.1 = 1 then ((spec_l1Cur_spoilt.f k s0_0 bt161.2.1 bt161.2.2 bt156.1 (⟨#[40, 46, 41]⟩ : ByteArray)).bind fun bt167 => (some (bt167.1, bt156.2.1, bt167.2.1, bt167.2.2))) else (if bt161.1 = 2 then ((spec_l1Cur_pick.f s0_0 bt161.2.1 bt161.2.2 2).bind fun bt170 => ((spec_l1Cur_surePair.f k s0_0 bt170.2.1 bt170.2.2 (wrap64 (8 + bt170.1))).bind fun bt173 => (some (bt173.1, bt173.2.1, bt173.2.2.1, bt173.2.2.2)))) else (if bt161.1 = 3 then ((spec_l1Cur_pick.f s0_0 bt161.2.1 bt161.2.2 4).bind fun bt177 => ((spec_prGenerator.f bt177.1).bind fun bt180 => (some (bt180.1, bt180.2, bt177.2.1, bt177.2.2)))) else (some (bt156.1, bt156.2.1, bt161.2.1, bt161.2.2))))))))) = some (r1, r2, r3, r4) := h
  clear h
  replace H := Option.bind_eq_some_iff.mp H
  obtain ⟨⟨t153, t154, t155⟩, A30, H⟩ := H
  replace H : ((spec_l1Cur_surePair.f k s0_0 t154 t155 t153).bind fun bt156 => ((spec_l1Cur_pick.f s0_0 bt156.2.2.1 bt156.2.2.2 14).bind fun bt161 => (if bt161.1 = 0 then ((spec_l1Cur_tree.f k s0_0 bt161.2.1 bt161.2.2 a1).bind fun bt164 => (some (bt156.1, bt164.1, bt164.2.1, bt164.2.2))) else (if bt161.1 = 1 then ((spec_l1Cur_spoilt.f k s0_0 bt161.2.1 bt161.2.2 bt156.1 (⟨#[40, 46, 41]⟩ : ByteArray)).bind fun bt167 => (some (bt167.1, bt156.2.1, bt167.2.1, bt167.2.2))) else (if bt161.1 = 2 then ((spec_l1Cur_pick.f s0_0 bt161.2.1 bt161.2.2 2).bind fun bt170 => ((spec_l1Cur_surePair.f k s0_0 bt170.2.1 bt170.2.2 (wrap64 (8 + bt170.1))).bind fun bt173 => (some (bt173.1, bt173.2.1, bt173.2.2.1, bt173.2.2.2)))) else (if bt161.1 = 3 then ((spec_l1Cur_pick.f s0_0 bt161.2.1 bt161.2.2 4).bind fun bt177 => ((spec_prGenerator.f bt177.1).bind fun bt180 => (some (bt180.1, bt180.2, bt177.2.1, bt177.2.2)))) else (some (bt156.1, bt156.2.1, bt161.2.1, bt161.2.2)))))))) = some (r1, r2, r3, r4) := H
  have A3 := Aside0.mk A30
  clear A30
  replace H := Option.bind_eq_some_iff.mp H
  obtain ⟨⟨t156, t157, t158, t159⟩, A40, H⟩ := H
  replace H : ((spec_l1Cur_pick.f s0_0 t158 t159 14).bind fun bt161 => (if bt161.1 = 0 then ((spec_l1Cur_tree.f k s0_0 bt161.2.1 bt161.2.2 a1).bind fun bt164 => (some (t156, bt164.1, bt164.2.1, bt164.2.2))) else (if bt161.1 = 1 then ((spec_l1Cur_spoilt.f k s0_0 bt161.2.1 bt161.2.2 t156 (⟨#[40, 46, 41]⟩ : ByteArray)).bind fun bt167 => (some (bt167.1, t157, bt167.2.1, bt167.2.2))) else (if bt161.1 = 2 then ((spec_l1Cur_pick.f s0_0 bt161.2.1 bt161.2.2 2).bind fun bt170 => ((spec_l1Cur_surePair.f k s0_0 bt170.2.1 bt170.2.2 (wrap64 (8 + bt170.1))).bind fun bt173 => (some (bt173.1, bt173.2.1, bt173.2.2.1, bt173.2.2.2)))) else (if bt161.1 = 3 then ((spec_l1Cur_pick.f s0_0 bt161.2.1 bt161.2.2 4).bind fun bt177 => ((spec_prGenerator.f bt177.1).bind fun bt180 => (some (bt180.1, bt180.2, bt177.2.1, bt177.2.2)))) else (some (t156, t157, bt161.2.1, bt161.2.2))))))) = some (r1, r2, r3, r4) := H
  have A4 := Aside0.mk A40
  clear A40
  replace H := Option.bind_eq_some_iff.mp H
  obtain ⟨⟨t161, t162, t163⟩, A50, H⟩ := H
  replace H : (if t161 = 0 then ((spec_l1Cur_tree.f k s0_0 t162 t163 a1).bind fun bt164 => (some (t156, bt164.1, bt164.2.1, bt164.2.2))) else (if t161 = 1 then ((spec_l1Cur_spoilt.f k s0_0 t162 t163 t156 (⟨#[40, 46, 41]⟩ : ByteArray)).bind fun bt167 => (some (bt167.1, t157, bt167.2.1, bt167.2.2))) else (if t161 = 2 then ((spec_l1Cur_pick.f s0_0 t162 t163 2).bind fun bt170 => ((spec_l1Cur_surePair.f k s0_0 bt170.2.1 bt170.2.2 (wrap64 (8 + bt170.1))).bind fun bt173 => (some (bt173.1, bt173.2.1, bt173.2.2.1, bt173.2.2.2)))) else (if t161 = 3 then ((spec_l1Cur_pick.f s0_0 t162 t163 4).bind fun bt177 => ((spec_prGenerator.f bt177.1).bind fun bt180 => (some (bt180.1, bt180.2, bt177.2.1, bt177.2.2)))) else (some (t156, t157, t162, t163)))))) = some (r1, r2, r3, r4) := H
  have A5 := Aside0.mk A50
  clear A50
  by_cases c6 : t161 = 0
  · rw [if_pos c6] at H
    have c6b0 : (t161 == 0) = true := beq_iff_eq.mpr c6
    have c6b1 : (t161 != 0) = false := bne_eq_false_iff_eq.mpr c6
    clear c6
    replace H := Option.bind_eq_some_iff.mp H
    obtain ⟨⟨t164, t165, t166⟩, A70, H⟩ := H
    replace H : (some (t156, t164, t165, t166)) = some (r1, r2, r3, r4) := H
    have A7 := Aside0.mk A70
    clear A70
    simp only [Option.some.injEq, Prod.mk.injEq] at H
    obtain ⟨rfl, rfl, rfl, rfl⟩ := H
    go_enter Tryz.func25, Tryz.ntmps25
    go_wp2_with (first | ((with_reducible refine gate_dst (N := 4) rfl ?_); refine box_event ?hg (N := 4) ?hd (cs := #[.string (⟨#[]⟩ : ByteArray), .string (⟨#[]⟩ : ByteArray)]) (t := 25) ?hr ?_; (case hd => rfl); (case hg => rfl); (case hr => exact lr); intro gb152 hg w8 hbox hb; have n0_ := Aside0.mk (IsS54.below (lI54 HI0.out) hb); have n1_ := Aside0.mk (KeepBut.trans (lK HK.out) (KeepBut.of_below hb g none) (.inl rfl)); have n2_ := Aside0.mk (below_step (lB HB.out) hb); have n3_ := Aside0.mk (hbox); have n4_ := Aside0.mk ((by rw [hg]; exact (keep_size (w := w) (g := g) (row := none) (lK HK.out)) : w.heap.size ≤ gb152)); have n5_ := Aside0.mk ((Nat.le_trans HW0.out (by rw [hg]; exact (keep_size (w := w) (g := g) (row := none) (lK HK.out)) : w.heap.size ≤ gb152) : w0.heap.size ≤ gb152)); have n6_ := Aside0.mk ((by rw [hg]; exact Nat.ne_of_lt (IsS54.lt (show IsS54 w0 _ g s0_0 s0_1 s0_2 from by exact lI54 HI0.out)) : g ≠ gb152)); have n7_ := Aside0.mk ((by rw [hg]; exact Nat.ne_of_gt (IsS54.lt (show IsS54 w0 _ g s0_0 s0_1 s0_2 from by exact lI54 HI0.out)) : gb152 ≠ g)); clear HI0 HK HB; have HI0 := n0_; have HK := n1_; have HB := n2_; have BK152 := n3_; have GW152 := n4_; have GE152 := n5_; have NB0_152 := n6_; have NB152_0 := n7_; clear n0_ n1_ n2_ n3_ n4_ n5_ n6_ n7_; clear hb hbox hg) | ((with_reducible refine gate_callee (f := 49) rfl ?_); refine goesL_ (some 10) rfl rfl Tryz.func49 (by kernel_rfl) rfl #[.pointer (some ⟨g, 0, none⟩), .int .i64 (wrap64 (a1 + 1))] rfl lm ?_; (with_reducible refine (spec_l1Cur_pick.calls g s0_0 s0_1 s0_2 (wrap64 (a1 + 1)) t153 t154 t155 w0 _ ?side1 ?side2 A3.out).mono ?_); (case side1 => exact lI54 HI0.out); (case side2 => exact lB HB.out); rintro e w9 ⟨rfl, hi, hb, hk⟩; refine ⟨_, rfl, ?_⟩; have n0_ := Aside0.mk (KeepBut.blk hk (g' := gb152) (o := .cells #[.string (⟨#[]⟩ : ByteArray), .string (⟨#[]⟩ : ByteArray)] 25 (0, 0)) (lb BK152.out) NB152_0.out (by simp)); have n1_ := Aside0.mk (KeepBut.trans (lK HK.out) hk (.inl rfl)); have n2_ := Aside0.mk (hb); have n3_ := Aside0.mk (hi); clear BK152 HK HB HI0; have BK152 := n0_; have HK := n1_; have HB := n2_; have HI0 := n3_; clear n0_ n1_ n2_ n3_; (try clear hb); (try clear hb2); (try clear hk); (try clear hi)) | ((with_reducible refine gate_callee (f := 65) rfl ?_); refine goesL_ (some 11) rfl rfl Tryz.func65 (by kernel_rfl) rfl #[.pointer (some ⟨g, 0, none⟩), .int .i64 t153] rfl lm ?_; (with_reducible refine (spec_l1Cur_surePair.calls k g s0_0 t154 t155 t153 t156 t157 t158 t159 w0 _ ?side1 ?side2 A4.out).mono ?_); (case side1 => exact lI54 HI0.out); (case side2 => exact lB HB.out); rintro e w10 ⟨rfl, hi, hb, hk⟩; refine ⟨_, rfl, ?_⟩; have n0_ := Aside0.mk (KeepBut.blk hk (g' := gb152) (o := .cells #[.string (⟨#[]⟩ : ByteArray), .string (⟨#[]⟩ : ByteArray)] 25 (0, 0)) (lb BK152.out) NB152_0.out (by simp)); have n1_ := Aside0.mk (KeepBut.trans (lK HK.out) hk (.inl rfl)); have n2_ := Aside0.mk (hb); have n3_ := Aside0.mk (hi); clear BK152 HK HB HI0; have BK152 := n0_; have HK := n1_; have HB := n2_; have HI0 := n3_; clear n0_ n1_ n2_ n3_; (try clear hb); (try clear hb2); (try clear hk); (try clear hi)) | ((with_reducible refine gate_dst (N := 5) rfl ?_); refine box_event ?hg (N := 5) ?hd (cs := #[.string (⟨#[]⟩ : ByteArray), .string (⟨#[]⟩ : ByteArray)]) (t := 25) ?hr ?_; (case hd => rfl); (case hg => rfl); (case hr => exact lr); intro gb160 hg w11 hbox hb; have n0_ := Aside0.mk (IsS54.below (lI54 HI0.out) hb); have n1_ := Aside0.mk (blk_below (lb BK152.out) hb); have n2_ := Aside0.mk (KeepBut.trans (lK HK.out) (KeepBut.of_below hb g none) (.inl rfl)); have n3_ := Aside0.mk (below_step (lB HB.out) hb); have n4_ := Aside0.mk (hbox); have n5_ := Aside0.mk ((by rw [hg]; exact (keep_size (w := w) (g := g) (row := none) (lK HK.out)) : w.heap.size ≤ gb160)); have n6_ := Aside0.mk ((Nat.le_trans HW0.out (by rw [hg]; exact (keep_size (w := w) (g := g) (row := none) (lK HK.out)) : w.heap.size ≤ gb160) : w0.heap.size ≤ gb160)); have n7_ := na hg (lb BK152.out); have n8_ := nz hg (lb BK152.out); have n9_ := Aside0.mk ((by rw [hg]; exact Nat.ne_of_lt (IsS54.lt (show IsS54 w0 _ g s0_0 t158 t159 from by exact lI54 HI0.out)) : g ≠ gb160)); have n10_ := Aside0.mk ((by rw [hg]; exact Nat.ne_of_gt (IsS54.lt (show IsS54 w0 _ g s0_0 t158 t159 from by exact lI54 HI0.out)) : gb160 ≠ g)); clear HI0 BK152 HK HB; have HI0 := n0_; have BK152 := n1_; have HK := n2_; have HB := n3_; have BK160 := n4_; have GW160 := n5_; have GE160 := n6_; have NB152_160 := n7_; have NB160_152 := n8_; have NB0_160 := n9_; have NB160_0 := n10_; clear n0_ n1_ n2_ n3_ n4_ n5_ n6_ n7_ n8_ n9_ n10_; clear hb hbox hg; have hnb12 := NB160_152.out; have hnc12 := NB152_160.out; have hnb13 := NB160_0.out; have hnc13 := NB0_160.out; have hcz14_0 : w11.cell? ⟨gb160, 0, none⟩ = some (.string (⟨#[]⟩ : ByteArray)) := (blk_cell BK160.out 0).trans rfl; have hcz14_1 : w11.cell? ⟨gb160, 1, none⟩ = some (.string (⟨#[]⟩ : ByteArray)) := (blk_cell BK160.out 1).trans rfl; have hfz14_0 := blk_frozen BK160.out 0; have hfz14_1 := blk_frozen BK160.out 1) | ((with_reducible refine gate_callee (f := 49) rfl ?_); refine goesL_ (some 13) rfl rfl Tryz.func49 (by kernel_rfl) rfl #[.pointer (some ⟨g, 0, none⟩), .int .i64 14] rfl lm ?_; (with_reducible refine (spec_l1Cur_pick.calls g s0_0 t158 t159 14 t161 t162 t163 w0 _ ?side1 ?side2 A5.out).mono ?_); (case side1 => exact lI54 HI0.out); (case side2 => exact lB HB.out); rintro e w15 ⟨rfl, hi, hb, hk⟩; refine ⟨_, rfl, ?_⟩; have n0_ := Aside0.mk (KeepBut.blk hk (g' := gb152) (o := .cells #[.string (⟨#[]⟩ : ByteArray), .string (⟨#[]⟩ : ByteArray)] 25 (0, 0)) (by (with_reducible repeat (first | refine blk_drewN ?_ _ | refine blk_drew ?_ | refine blk_alloc ?_ _)); refine blk_far ?_ NB152_160.out _; (with_reducible repeat (first | refine blk_drewN ?_ _ | refine blk_drew ?_ | refine blk_alloc ?_ _)); refine blk_far ?_ NB152_160.out _; exact lb BK152.out) NB152_0.out (by simp)); have n1_ := Aside0.mk (KeepBut.blk hk (g' := gb160) (o := .cells #[.string t156, .string t157] 25 (0, 0)) (by (with_reducible repeat (first | refine blk_drewN ?_ _ | refine blk_drew ?_ | refine blk_alloc ?_ _)); refine blk_put (cs := #[.string t156, .string (⟨#[]⟩ : ByteArray)]) ?_ 1 _ rfl; (with_reducible repeat (first | refine blk_drewN ?_ _ | refine blk_drew ?_ | refine blk_alloc ?_ _)); refine blk_put (cs := #[.string (⟨#[]⟩ : ByteArray), .string (⟨#[]⟩ : ByteArray)]) ?_ 0 _ rfl; exact lb BK160.out) NB160_0.out (by simp)); have n2_ := Aside0.mk (KeepBut.trans (lK HK.out) hk (.inl rfl)); have n3_ := Aside0.mk (hb); have n4_ := Aside0.mk (hi); clear BK152 BK160 HK HB HI0; have BK152 := n0_; have BK160 := n1_; have HK := n2_; have HB := n3_; have HI0 := n4_; clear n0_ n1_ n2_ n3_ n4_; (try clear hb); (try clear hb2); (try clear hk); (try clear hi)) | ((with_reducible refine gate_callee (f := 66) rfl ?_); refine goesL_ (some 18) rfl rfl Tryz.func66 (by kernel_rfl) rfl #[.pointer (some ⟨g, 0, none⟩), .int .i64 a1] rfl lm ?_; (with_reducible refine (spec_l1Cur_tree.calls k g s0_0 t162 t163 a1 t164 t165 t166 w0 _ ?side1 ?side2 A7.out).mono ?_); (case side1 => exact lI54 HI0.out); (case side2 => exact lB HB.out); rintro e w16 ⟨rfl, hi, hb, hk⟩; refine ⟨_, rfl, ?_⟩; have n0_ := Aside0.mk (KeepBut.blk hk (g' := gb152) (o := .cells #[.string (⟨#[]⟩ : ByteArray), .string (⟨#[]⟩ : ByteArray)] 25 (0, 0)) (lb BK152.out) NB152_0.out (by simp)); have n1_ := Aside0.mk (KeepBut.blk hk (g' := gb160) (o := .cells #[.string t156, .string t157] 25 (0, 0)) (lb BK160.out) NB160_0.out (by simp)); have n2_ := Aside0.mk (KeepBut.trans (lK HK.out) hk (.inl rfl)); have n3_ := Aside0.mk (hb); have n4_ := Aside0.mk (hi); clear BK152 BK160 HK HB HI0; have BK152 := n0_; have BK160 := n1_; have HK := n2_; have HB := n3_; have HI0 := n4_; clear n0_ n1_ n2_ n3_ n4_; (try clear hb); (try clear hb2); (try clear hk); (try clear hi); have hcz17_0 : w16.cell? ⟨gb160, 0, none⟩ = some (.string t156) := (blk_cell BK160.out 0).trans rfl; have hcz17_1 : w16.cell? ⟨gb160, 1, none⟩ = some (.string t157) := (blk_cell BK160.out 1).trans rfl; have hfz17_0 := blk_frozen BK160.out 0; have hfz17_1 := blk_frozen BK160.out 1; have hnb18 := NB152_0.out; have hnc18 := NB0_152.out; have hcz19_0 : w16.cell? ⟨gb152, 0, none⟩ = some (.string (⟨#[]⟩ : ByteArray)) := (blk_cell BK152.out 0).trans rfl; have hcz19_1 : w16.cell? ⟨gb152, 1, none⟩ = some (.string (⟨#[]⟩ : ByteArray)) := (blk_cell BK152.out 1).trans rfl; have hfz19_0 := blk_frozen BK152.out 0; have hfz19_1 := blk_frozen BK152.out 1))
    refine bodyPost_ret (results_cell_row rfl _ _ gb152 25 #[.string t156, .string t164] (0, 0) _ rfl (by (with_reducible repeat (first | refine blk_drewN ?_ _ | refine blk_drew ?_ | refine blk_alloc ?_ _)); refine blk_put (cs := #[.string t156, .string (⟨#[]⟩ : ByteArray)]) ?_ 1 _ rfl; (with_reducible repeat (first | refine blk_drewN ?_ _ | refine blk_drew ?_ | refine blk_alloc ?_ _)); refine blk_put (cs := #[.string (⟨#[]⟩ : ByteArray), .string (⟨#[]⟩ : ByteArray)]) ?_ 0 _ rfl; (with_reducible repeat (first | refine blk_drewN ?_ _ | refine blk_drew ?_ | refine blk_alloc ?_ _)); refine blk_far ?_ NB152_160.out _; exact lb BK152.out) Tryz.underlying25 rfl (by kernel_rfl)) rfl ?_
    exact ⟨lx, by exact lI54 HI0.out, by exact lB HB.out, by exact lK HK.out⟩
  rw [if_neg c6] at H
  have c6b0 : (t161 == 0) = false := beq_eq_false_iff_ne.mpr c6
  have c6b1 : (t161 != 0) = true := bne_iff_ne.mpr c6
  by_cases c20 : t161 = 1
  · rw [if_pos c20] at H
    have c20b0 : (t161 == 1) = true := beq_iff_eq.mpr c20
    have c20b1 : (t161 != 1) = false := bne_eq_false_iff_eq.mpr c20
    clear c20
    replace H := Option.bind_eq_some_iff.mp H
    obtain ⟨⟨t167, t168, t169⟩, A210, H⟩ := H
    replace H : (some (t167, t157, t168, t169)) = some (r1, r2, r3, r4) := H
    have A21 := Aside0.mk A210
    clear A210
    simp only [Option.some.injEq, Prod.mk.injEq] at H
    obtain ⟨rfl, rfl, rfl, rfl⟩ := H
    go_enter Tryz.func25, Tryz.ntmps25
    go_wp2_with (first | ((with_reducible refine gate_dst (N := 4) rfl ?_); refine box_event ?hg (N := 4) ?hd (cs := #[.string (⟨#[]⟩ : ByteArray), .string (⟨#[]⟩ : ByteArray)]) (t := 25) ?hr ?_; (case hd => rfl); (case hg => rfl); (case hr => exact lr); intro gb152 hg w22 hbox hb; have n0_ := Aside0.mk (IsS54.below (lI54 HI0.out) hb); have n1_ := Aside0.mk (KeepBut.trans (lK HK.out) (KeepBut.of_below hb g none) (.inl rfl)); have n2_ := Aside0.mk (below_step (lB HB.out) hb); have n3_ := Aside0.mk (hbox); have n4_ := Aside0.mk ((by rw [hg]; exact (keep_size (w := w) (g := g) (row := none) (lK HK.out)) : w.heap.size ≤ gb152)); have n5_ := Aside0.mk ((Nat.le_trans HW0.out (by rw [hg]; exact (keep_size (w := w) (g := g) (row := none) (lK HK.out)) : w.heap.size ≤ gb152) : w0.heap.size ≤ gb152)); have n6_ := Aside0.mk ((by rw [hg]; exact Nat.ne_of_lt (IsS54.lt (show IsS54 w0 _ g s0_0 s0_1 s0_2 from by exact lI54 HI0.out)) : g ≠ gb152)); have n7_ := Aside0.mk ((by rw [hg]; exact Nat.ne_of_gt (IsS54.lt (show IsS54 w0 _ g s0_0 s0_1 s0_2 from by exact lI54 HI0.out)) : gb152 ≠ g)); clear HI0 HK HB; have HI0 := n0_; have HK := n1_; have HB := n2_; have BK152 := n3_; have GW152 := n4_; have GE152 := n5_; have NB0_152 := n6_; have NB152_0 := n7_; clear n0_ n1_ n2_ n3_ n4_ n5_ n6_ n7_; clear hb hbox hg) | ((with_reducible refine gate_callee (f := 49) rfl ?_); refine goesL_ (some 10) rfl rfl Tryz.func49 (by kernel_rfl) rfl #[.pointer (some ⟨g, 0, none⟩), .int .i64 (wrap64 (a1 + 1))] rfl lm ?_; (with_reducible refine (spec_l1Cur_pick.calls g s0_0 s0_1 s0_2 (wrap64 (a1 + 1)) t153 t154 t155 w0 _ ?side1 ?side2 A3.out).mono ?_); (case side1 => exact lI54 HI0.out); (case side2 => exact lB HB.out); rintro e w23 ⟨rfl, hi, hb, hk⟩; refine ⟨_, rfl, ?_⟩; have n0_ := Aside0.mk (KeepBut.blk hk (g' := gb152) (o := .cells #[.string (⟨#[]⟩ : ByteArray), .string (⟨#[]⟩ : ByteArray)] 25 (0, 0)) (lb BK152.out) NB152_0.out (by simp)); have n1_ := Aside0.mk (KeepBut.trans (lK HK.out) hk (.inl rfl)); have n2_ := Aside0.mk (hb); have n3_ := Aside0.mk (hi); clear BK152 HK HB HI0; have BK152 := n0_; have HK := n1_; have HB := n2_; have HI0 := n3_; clear n0_ n1_ n2_ n3_; (try clear hb); (try clear hb2); (try clear hk); (try clear hi)) | ((with_reducible refine gate_callee (f := 65) rfl ?_); refine goesL_ (some 11) rfl rfl Tryz.func65 (by kernel_rfl) rfl #[.pointer (some ⟨g, 0, none⟩), .int .i64 t153] rfl lm ?_; (with_reducible refine (spec_l1Cur_surePair.calls k g s0_0 t154 t155 t153 t156 t157 t158 t159 w0 _ ?side1 ?side2 A4.out).mono ?_); (case side1 => exact lI54 HI0.out); (case side2 => exact lB HB.out); rintro e w24 ⟨rfl, hi, hb, hk⟩; refine ⟨_, rfl, ?_⟩; have n0_ := Aside0.mk (KeepBut.blk hk (g' := gb152) (o := .cells #[.string (⟨#[]⟩ : ByteArray), .string (⟨#[]⟩ : ByteArray)] 25 (0, 0)) (lb BK152.out) NB152_0.out (by simp)); have n1_ := Aside0.mk (KeepBut.trans (lK HK.out) hk (.inl rfl)); have n2_ := Aside0.mk (hb); have n3_ := Aside0.mk (hi); clear BK152 HK HB HI0; have BK152 := n0_; have HK := n1_; have HB := n2_; have HI0 := n3_; clear n0_ n1_ n2_ n3_; (try clear hb); (try clear hb2); (try clear hk); (try clear hi)) | ((with_reducible refine gate_dst (N := 5) rfl ?_); refine box_event ?hg (N := 5) ?hd (cs := #[.string (⟨#[]⟩ : ByteArray), .string (⟨#[]⟩ : ByteArray)]) (t := 25) ?hr ?_; (case hd => rfl); (case hg => rfl); (case hr => exact lr); intro gb160 hg w25 hbox hb; have n0_ := Aside0.mk (IsS54.below (lI54 HI0.out) hb); have n1_ := Aside0.mk (blk_below (lb BK152.out) hb); have n2_ := Aside0.mk (KeepBut.trans (lK HK.out) (KeepBut.of_below hb g none) (.inl rfl)); have n3_ := Aside0.mk (below_step (lB HB.out) hb); have n4_ := Aside0.mk (hbox); have n5_ := Aside0.mk ((by rw [hg]; exact (keep_size (w := w) (g := g) (row := none) (lK HK.out)) : w.heap.size ≤ gb160)); have n6_ := Aside0.mk ((Nat.le_trans HW0.out (by rw [hg]; exact (keep_size (w := w) (g := g) (row := none) (lK HK.out)) : w.heap.size ≤ gb160) : w0.heap.size ≤ gb160)); have n7_ := na hg (lb BK152.out); have n8_ := nz hg (lb BK152.out); have n9_ := Aside0.mk ((by rw [hg]; exact Nat.ne_of_lt (IsS54.lt (show IsS54 w0 _ g s0_0 t158 t159 from by exact lI54 HI0.out)) : g ≠ gb160)); have n10_ := Aside0.mk ((by rw [hg]; exact Nat.ne_of_gt (IsS54.lt (show IsS54 w0 _ g s0_0 t158 t159 from by exact lI54 HI0.out)) : gb160 ≠ g)); clear HI0 BK152 HK HB; have HI0 := n0_; have BK152 := n1_; have HK := n2_; have HB := n3_; have BK160 := n4_; have GW160 := n5_; have GE160 := n6_; have NB152_160 := n7_; have NB160_152 := n8_; have NB0_160 := n9_; have NB160_0 := n10_; clear n0_ n1_ n2_ n3_ n4_ n5_ n6_ n7_ n8_ n9_ n10_; clear hb hbox hg; have hnb26 := NB160_152.out; have hnc26 := NB152_160.out; have hnb27 := NB160_0.out; have hnc27 := NB0_160.out; have hcz28_0 : w25.cell? ⟨gb160, 0, none⟩ = some (.string (⟨#[]⟩ : ByteArray)) := (blk_cell BK160.out 0).trans rfl; have hcz28_1 : w25.cell? ⟨gb160, 1, none⟩ = some (.string (⟨#[]⟩ : ByteArray)) := (blk_cell BK160.out 1).trans rfl; have hfz28_0 := blk_frozen BK160.out 0; have hfz28_1 := blk_frozen BK160.out 1) | ((with_reducible refine gate_callee (f := 49) rfl ?_); refine goesL_ (some 13) rfl rfl Tryz.func49 (by kernel_rfl) rfl #[.pointer (some ⟨g, 0, none⟩), .int .i64 14] rfl lm ?_; (with_reducible refine (spec_l1Cur_pick.calls g s0_0 t158 t159 14 t161 t162 t163 w0 _ ?side1 ?side2 A5.out).mono ?_); (case side1 => exact lI54 HI0.out); (case side2 => exact lB HB.out); rintro e w29 ⟨rfl, hi, hb, hk⟩; refine ⟨_, rfl, ?_⟩; have n0_ := Aside0.mk (KeepBut.blk hk (g' := gb152) (o := .cells #[.string (⟨#[]⟩ : ByteArray), .string (⟨#[]⟩ : ByteArray)] 25 (0, 0)) (by (with_reducible repeat (first | refine blk_drewN ?_ _ | refine blk_drew ?_ | refine blk_alloc ?_ _)); refine blk_far ?_ NB152_160.out _; (with_reducible repeat (first | refine blk_drewN ?_ _ | refine blk_drew ?_ | refine blk_alloc ?_ _)); refine blk_far ?_ NB152_160.out _; exact lb BK152.out) NB152_0.out (by simp)); have n1_ := Aside0.mk (KeepBut.blk hk (g' := gb160) (o := .cells #[.string t156, .string t157] 25 (0, 0)) (by (with_reducible repeat (first | refine blk_drewN ?_ _ | refine blk_drew ?_ | refine blk_alloc ?_ _)); refine blk_put (cs := #[.string t156, .string (⟨#[]⟩ : ByteArray)]) ?_ 1 _ rfl; (with_reducible repeat (first | refine blk_drewN ?_ _ | refine blk_drew ?_ | refine blk_alloc ?_ _)); refine blk_put (cs := #[.string (⟨#[]⟩ : ByteArray), .string (⟨#[]⟩ : ByteArray)]) ?_ 0 _ rfl; exact lb BK160.out) NB160_0.out (by simp)); have n2_ := Aside0.mk (KeepBut.trans (lK HK.out) hk (.inl rfl)); have n3_ := Aside0.mk (hb); have n4_ := Aside0.mk (hi); clear BK152 BK160 HK HB HI0; have BK152 := n0_; have BK160 := n1_; have HK := n2_; have HB := n3_; have HI0 := n4_; clear n0_ n1_ n2_ n3_ n4_; (try clear hb); (try clear hb2); (try clear hk); (try clear hi); have hcz30_0 : w29.cell? ⟨gb160, 0, none⟩ = some (.string t156) := (blk_cell BK160.out 0).trans rfl; have hcz30_1 : w29.cell? ⟨gb160, 1, none⟩ = some (.string t157) := (blk_cell BK160.out 1).trans rfl; have hfz30_0 := blk_frozen BK160.out 0; have hfz30_1 := blk_frozen BK160.out 1) | ((with_reducible refine gate_callee (f := 67) rfl ?_); refine goesL_ (some 25) rfl rfl Tryz.func67 (by kernel_rfl) rfl #[.pointer (some ⟨g, 0, none⟩), .string t156, .string (⟨#[40, 46, 41]⟩ : ByteArray)] rfl lm ?_; (with_reducible refine (spec_l1Cur_spoilt.calls k g s0_0 t162 t163 t156 (⟨#[40, 46, 41]⟩ : ByteArray) t167 t168 t169 w0 _ ?side1 ?side2 A21.out).mono ?_); (case side1 => exact lI54 HI0.out); (case side2 => exact lB HB.out); rintro e w31 ⟨rfl, hi, hb, hk⟩; refine ⟨_, rfl, ?_⟩; have n0_ := Aside0.mk (KeepBut.blk hk (g' := gb152) (o := .cells #[.string (⟨#[]⟩ : ByteArray), .string (⟨#[]⟩ : ByteArray)] 25 (0, 0)) (lb BK152.out) NB152_0.out (by simp)); have n1_ := Aside0.mk (KeepBut.blk hk (g' := gb160) (o := .cells #[.string t156, .string t157] 25 (0, 0)) (lb BK160.out) NB160_0.out (by simp)); have n2_ := Aside0.mk (KeepBut.trans (lK HK.out) hk (.inl rfl)); have n3_ := Aside0.mk (hb); have n4_ := Aside0.mk (hi); clear BK152 BK160 HK HB HI0; have BK152 := n0_; have BK160 := n1_; have HK := n2_; have HB := n3_; have HI0 := n4_; clear n0_ n1_ n2_ n3_ n4_; (try clear hb); (try clear hb2); (try clear hk); (try clear hi); have hcz32_0 : w31.cell? ⟨gb160, 0, none⟩ = some (.string t156) := (blk_cell BK160.out 0).trans rfl; have hcz32_1 : w31.cell? ⟨gb160, 1, none⟩ = some (.string t157) := (blk_cell BK160.out 1).trans rfl; have hfz32_0 := blk_frozen BK160.out 0; have hfz32_1 := blk_frozen BK160.out 1; have hnb33 := NB152_0.out; have hnc33 := NB0_152.out; have hcz34_0 : w31.cell? ⟨gb152, 0, none⟩ = some (.string (⟨#[]⟩ : ByteArray)) := (blk_cell BK152.out 0).trans rfl; have hcz34_1 : w31.cell? ⟨gb152, 1, none⟩ = some (.string (⟨#[]⟩ : ByteArray)) := (blk_cell BK152.out 1).trans rfl; have hfz34_0 := blk_frozen BK152.out 0; have hfz34_1 := blk_frozen BK152.out 1))
    refine bodyPost_ret (results_cell_row rfl _ _ gb152 25 #[.string t167, .string t157] (0, 0) _ rfl (by (with_reducible repeat (first | refine blk_drewN ?_ _ | refine blk_drew ?_ | refine blk_alloc ?_ _)); refine blk_put (cs := #[.string t167, .string (⟨#[]⟩ : ByteArray)]) ?_ 1 _ rfl; (with_reducible repeat (first | refine blk_drewN ?_ _ | refine blk_drew ?_ | refine blk_alloc ?_ _)); refine blk_put (cs := #[.string (⟨#[]⟩ : ByteArray), .string (⟨#[]⟩ : ByteArray)]) ?_ 0 _ rfl; (with_reducible repeat (first | refine blk_drewN ?_ _ | refine blk_drew ?_ | refine blk_alloc ?_ _)); refine blk_far ?_ NB152_160.out _; exact lb BK152.out) Tryz.underlying25 rfl (by kernel_rfl)) rfl ?_
    exact ⟨lx, by exact lI54 HI0.out, by exact lB HB.out, by exact lK HK.out⟩
  rw [if_neg c20] at H
  have c20b0 : (t161 == 1) = false := beq_eq_false_iff_ne.mpr c20
  have c20b1 : (t161 != 1) = true := bne_iff_ne.mpr c20
  by_cases c35 : t161 = 2
  · rw [if_pos c35] at H
    have c35b0 : (t161 == 2) = true := beq_iff_eq.mpr c35
    have c35b1 : (t161 != 2) = false := bne_eq_false_iff_eq.mpr c35
    clear c35
    replace H := Option.bind_eq_some_iff.mp H
    obtain ⟨⟨t170, t171, t172⟩, A360, H⟩ := H
    replace H : ((spec_l1Cur_surePair.f k s0_0 t171 t172 (wrap64 (8 + t170))).bind fun bt173 => (some (bt173.1, bt173.2.1, bt173.2.2.1, bt173.2.2.2))) = some (r1, r2, r3, r4) := H
    have A36 := Aside0.mk A360
    clear A360
    replace H := Option.bind_eq_some_iff.mp H
    obtain ⟨⟨t173, t174, t175, t176⟩, A370, H⟩ := H
    replace H : (some (t173, t174, t175, t176)) = some (r1, r2, r3, r4) := H
    have A37 := Aside0.mk A370
    clear A370
    simp only [Option.some.injEq, Prod.mk.injEq] at H
    obtain ⟨rfl, rfl, rfl, rfl⟩ := H
    go_enter Tryz.func25, Tryz.ntmps25
    go_wp2_with (first | ((with_reducible refine gate_dst (N := 4) rfl ?_); refine box_event ?hg (N := 4) ?hd (cs := #[.string (⟨#[]⟩ : ByteArray), .string (⟨#[]⟩ : ByteArray)]) (t := 25) ?hr ?_; (case hd => rfl); (case hg => rfl); (case hr => exact lr); intro gb152 hg w38 hbox hb; have n0_ := Aside0.mk (IsS54.below (lI54 HI0.out) hb); have n1_ := Aside0.mk (KeepBut.trans (lK HK.out) (KeepBut.of_below hb g none) (.inl rfl)); have n2_ := Aside0.mk (below_step (lB HB.out) hb); have n3_ := Aside0.mk (hbox); have n4_ := Aside0.mk ((by rw [hg]; exact (keep_size (w := w) (g := g) (row := none) (lK HK.out)) : w.heap.size ≤ gb152)); have n5_ := Aside0.mk ((Nat.le_trans HW0.out (by rw [hg]; exact (keep_size (w := w) (g := g) (row := none) (lK HK.out)) : w.heap.size ≤ gb152) : w0.heap.size ≤ gb152)); have n6_ := Aside0.mk ((by rw [hg]; exact Nat.ne_of_lt (IsS54.lt (show IsS54 w0 _ g s0_0 s0_1 s0_2 from by exact lI54 HI0.out)) : g ≠ gb152)); have n7_ := Aside0.mk ((by rw [hg]; exact Nat.ne_of_gt (IsS54.lt (show IsS54 w0 _ g s0_0 s0_1 s0_2 from by exact lI54 HI0.out)) : gb152 ≠ g)); clear HI0 HK HB; have HI0 := n0_; have HK := n1_; have HB := n2_; have BK152 := n3_; have GW152 := n4_; have GE152 := n5_; have NB0_152 := n6_; have NB152_0 := n7_; clear n0_ n1_ n2_ n3_ n4_ n5_ n6_ n7_; clear hb hbox hg) | ((with_reducible refine gate_callee (f := 49) rfl ?_); refine goesL_ (some 10) rfl rfl Tryz.func49 (by kernel_rfl) rfl #[.pointer (some ⟨g, 0, none⟩), .int .i64 (wrap64 (a1 + 1))] rfl lm ?_; (with_reducible refine (spec_l1Cur_pick.calls g s0_0 s0_1 s0_2 (wrap64 (a1 + 1)) t153 t154 t155 w0 _ ?side1 ?side2 A3.out).mono ?_); (case side1 => exact lI54 HI0.out); (case side2 => exact lB HB.out); rintro e w39 ⟨rfl, hi, hb, hk⟩; refine ⟨_, rfl, ?_⟩; have n0_ := Aside0.mk (KeepBut.blk hk (g' := gb152) (o := .cells #[.string (⟨#[]⟩ : ByteArray), .string (⟨#[]⟩ : ByteArray)] 25 (0, 0)) (lb BK152.out) NB152_0.out (by simp)); have n1_ := Aside0.mk (KeepBut.trans (lK HK.out) hk (.inl rfl)); have n2_ := Aside0.mk (hb); have n3_ := Aside0.mk (hi); clear BK152 HK HB HI0; have BK152 := n0_; have HK := n1_; have HB := n2_; have HI0 := n3_; clear n0_ n1_ n2_ n3_; (try clear hb); (try clear hb2); (try clear hk); (try clear hi)) | ((with_reducible refine gate_callee (f := 65) rfl ?_); refine goesL_ (some 11) rfl rfl Tryz.func65 (by kernel_rfl) rfl #[.pointer (some ⟨g, 0, none⟩), .int .i64 t153] rfl lm ?_; (with_reducible refine (spec_l1Cur_surePair.calls k g s0_0 t154 t155 t153 t156 t157 t158 t159 w0 _ ?side1 ?side2 A4.out).mono ?_); (case side1 => exact lI54 HI0.out); (case side2 => exact lB HB.out); rintro e w40 ⟨rfl, hi, hb, hk⟩; refine ⟨_, rfl, ?_⟩; have n0_ := Aside0.mk (KeepBut.blk hk (g' := gb152) (o := .cells #[.string (⟨#[]⟩ : ByteArray), .string (⟨#[]⟩ : ByteArray)] 25 (0, 0)) (lb BK152.out) NB152_0.out (by simp)); have n1_ := Aside0.mk (KeepBut.trans (lK HK.out) hk (.inl rfl)); have n2_ := Aside0.mk (hb); have n3_ := Aside0.mk (hi); clear BK152 HK HB HI0; have BK152 := n0_; have HK := n1_; have HB := n2_; have HI0 := n3_; clear n0_ n1_ n2_ n3_; (try clear hb); (try clear hb2); (try clear hk); (try clear hi)) | ((with_reducible refine gate_dst (N := 5) rfl ?_); refine box_event ?hg (N := 5) ?hd (cs := #[.string (⟨#[]⟩ : ByteArray), .string (⟨#[]⟩ : ByteArray)]) (t := 25) ?hr ?_; (case hd => rfl); (case hg => rfl); (case hr => exact lr); intro gb160 hg w41 hbox hb; have n0_ := Aside0.mk (IsS54.below (lI54 HI0.out) hb); have n1_ := Aside0.mk (blk_below (lb BK152.out) hb); have n2_ := Aside0.mk (KeepBut.trans (lK HK.out) (KeepBut.of_below hb g none) (.inl rfl)); have n3_ := Aside0.mk (below_step (lB HB.out) hb); have n4_ := Aside0.mk (hbox); have n5_ := Aside0.mk ((by rw [hg]; exact (keep_size (w := w) (g := g) (row := none) (lK HK.out)) : w.heap.size ≤ gb160)); have n6_ := Aside0.mk ((Nat.le_trans HW0.out (by rw [hg]; exact (keep_size (w := w) (g := g) (row := none) (lK HK.out)) : w.heap.size ≤ gb160) : w0.heap.size ≤ gb160)); have n7_ := na hg (lb BK152.out); have n8_ := nz hg (lb BK152.out); have n9_ := Aside0.mk ((by rw [hg]; exact Nat.ne_of_lt (IsS54.lt (show IsS54 w0 _ g s0_0 t158 t159 from by exact lI54 HI0.out)) : g ≠ gb160)); have n10_ := Aside0.mk ((by rw [hg]; exact Nat.ne_of_gt (IsS54.lt (show IsS54 w0 _ g s0_0 t158 t159 from by exact lI54 HI0.out)) : gb160 ≠ g)); clear HI0 BK152 HK HB; have HI0 := n0_; have BK152 := n1_; have HK := n2_; have HB := n3_; have BK160 := n4_; have GW160 := n5_; have GE160 := n6_; have NB152_160 := n7_; have NB160_152 := n8_; have NB0_160 := n9_; have NB160_0 := n10_; clear n0_ n1_ n2_ n3_ n4_ n5_ n6_ n7_ n8_ n9_ n10_; clear hb hbox hg; have hnb42 := NB160_152.out; have hnc42 := NB152_160.out; have hnb43 := NB160_0.out; have hnc43 := NB0_160.out; have hcz44_0 : w41.cell? ⟨gb160, 0, none⟩ = some (.string (⟨#[]⟩ : ByteArray)) := (blk_cell BK160.out 0).trans rfl; have hcz44_1 : w41.cell? ⟨gb160, 1, none⟩ = some (.string (⟨#[]⟩ : ByteArray)) := (blk_cell BK160.out 1).trans rfl; have hfz44_0 := blk_frozen BK160.out 0; have hfz44_1 := blk_frozen BK160.out 1) | ((with_reducible refine gate_callee (f := 49) rfl ?_); refine goesL_ (some 13) rfl rfl Tryz.func49 (by kernel_rfl) rfl #[.pointer (some ⟨g, 0, none⟩), .int .i64 14] rfl lm ?_; (with_reducible refine (spec_l1Cur_pick.calls g s0_0 t158 t159 14 t161 t162 t163 w0 _ ?side1 ?side2 A5.out).mono ?_); (case side1 => exact lI54 HI0.out); (case side2 => exact lB HB.out); rintro e w45 ⟨rfl, hi, hb, hk⟩; refine ⟨_, rfl, ?_⟩; have n0_ := Aside0.mk (KeepBut.blk hk (g' := gb152) (o := .cells #[.string (⟨#[]⟩ : ByteArray), .string (⟨#[]⟩ : ByteArray)] 25 (0, 0)) (by (with_reducible repeat (first | refine blk_drewN ?_ _ | refine blk_drew ?_ | refine blk_alloc ?_ _)); refine blk_far ?_ NB152_160.out _; (with_reducible repeat (first | refine blk_drewN ?_ _ | refine blk_drew ?_ | refine blk_alloc ?_ _)); refine blk_far ?_ NB152_160.out _; exact lb BK152.out) NB152_0.out (by simp)); have n1_ := Aside0.mk (KeepBut.blk hk (g' := gb160) (o := .cells #[.string t156, .string t157] 25 (0, 0)) (by (with_reducible repeat (first | refine blk_drewN ?_ _ | refine blk_drew ?_ | refine blk_alloc ?_ _)); refine blk_put (cs := #[.string t156, .string (⟨#[]⟩ : ByteArray)]) ?_ 1 _ rfl; (with_reducible repeat (first | refine blk_drewN ?_ _ | refine blk_drew ?_ | refine blk_alloc ?_ _)); refine blk_put (cs := #[.string (⟨#[]⟩ : ByteArray), .string (⟨#[]⟩ : ByteArray)]) ?_ 0 _ rfl; exact lb BK160.out) NB160_0.out (by simp)); have n2_ := Aside0.mk (KeepBut.trans (lK HK.out) hk (.inl rfl)); have n3_ := Aside0.mk (hb); have n4_ := Aside0.mk (hi); clear BK152 BK160 HK HB HI0; have BK152 := n0_; have BK160 := n1_; have HK := n2_; have HB := n3_; have HI0 := n4_; clear n0_ n1_ n2_ n3_ n4_; (try clear hb); (try clear hb2); (try clear hk); (try clear hi)) | ((with_reducible refine gate_callee (f := 49) rfl ?_); refine goesL_ (some 31) rfl rfl Tryz.func49 (by kernel_rfl) rfl #[.pointer (some ⟨g, 0, none⟩), .int .i64 2] rfl lm ?_; (with_reducible refine (spec_l1Cur_pick.calls g s0_0 t162 t163 2 t170 t171 t172 w0 _ ?side1 ?side2 A36.out).mono ?_); (case side1 => exact lI54 HI0.out); (case side2 => exact lB HB.out); rintro e w46 ⟨rfl, hi, hb, hk⟩; refine ⟨_, rfl, ?_⟩; have n0_ := Aside0.mk (KeepBut.blk hk (g' := gb152) (o := .cells #[.string (⟨#[]⟩ : ByteArray), .string (⟨#[]⟩ : ByteArray)] 25 (0, 0)) (lb BK152.out) NB152_0.out (by simp)); have n1_ := Aside0.mk (KeepBut.blk hk (g' := gb160) (o := .cells #[.string t156, .string t157] 25 (0, 0)) (lb BK160.out) NB160_0.out (by simp)); have n2_ := Aside0.mk (KeepBut.trans (lK HK.out) hk (.inl rfl)); have n3_ := Aside0.mk (hb); have n4_ := Aside0.mk (hi); clear BK152 BK160 HK HB HI0; have BK152 := n0_; have BK160 := n1_; have HK := n2_; have HB := n3_; have HI0 := n4_; clear n0_ n1_ n2_ n3_ n4_; (try clear hb); (try clear hb2); (try clear hk); (try clear hi)) | ((with_reducible refine gate_callee (f := 65) rfl ?_); refine goesL_ (some 33) rfl rfl Tryz.func65 (by kernel_rfl) rfl #[.pointer (some ⟨g, 0, none⟩), .int .i64 (wrap64 (8 + t170))] rfl lm ?_; (with_reducible refine (spec_l1Cur_surePair.calls k g s0_0 t171 t172 (wrap64 (8 + t170)) t173 t174 t175 t176 w0 _ ?side1 ?side2 A37.out).mono ?_); (case side1 => exact lI54 HI0.out); (case side2 => exact lB HB.out); rintro e w47 ⟨rfl, hi, hb, hk⟩; refine ⟨_, rfl, ?_⟩; have n0_ := Aside0.mk (KeepBut.blk hk (g' := gb152) (o := .cells #[.string (⟨#[]⟩ : ByteArray), .string (⟨#[]⟩ : ByteArray)] 25 (0, 0)) (lb BK152.out) NB152_0.out (by simp)); have n1_ := Aside0.mk (KeepBut.blk hk (g' := gb160) (o := .cells #[.string t156, .string t157] 25 (0, 0)) (lb BK160.out) NB160_0.out (by simp)); have n2_ := Aside0.mk (KeepBut.trans (lK HK.out) hk (.inl rfl)); have n3_ := Aside0.mk (hb); have n4_ := Aside0.mk (hi); clear BK152 BK160 HK HB HI0; have BK152 := n0_; have BK160 := n1_; have HK := n2_; have HB := n3_; have HI0 := n4_; clear n0_ n1_ n2_ n3_ n4_; (try clear hb); (try clear hb2); (try clear hk); (try clear hi); have hcz48_0 : w47.cell? ⟨gb160, 0, none⟩ = some (.string t156) := (blk_cell BK160.out 0).trans rfl; have hcz48_1 : w47.cell? ⟨gb160, 1, none⟩ = some (.string t157) := (blk_cell BK160.out 1).trans rfl; have hfz48_0 := blk_frozen BK160.out 0; have hfz48_1 := blk_frozen BK160.out 1; have hnb49 := NB152_0.out; have hnc49 := NB0_152.out; have hcz50_0 : w47.cell? ⟨gb152, 0, none⟩ = some (.string (⟨#[]⟩ : ByteArray)) := (blk_cell BK152.out 0).trans rfl; have hcz50_1 : w47.cell? ⟨gb152, 1, none⟩ = some (.string (⟨#[]⟩ : ByteArray)) := (blk_cell BK152.out 1).trans rfl; have hfz50_0 := blk_frozen BK152.out 0; have hfz50_1 := blk_frozen BK152.out 1))
    refine bodyPost_ret (results_cell_row rfl _ _ gb152 25 #[.string t173, .string t174] (0, 0) _ rfl (by (with_reducible repeat (first | refine blk_drewN ?_ _ | refine blk_drew ?_ | refine blk_alloc ?_ _)); refine blk_put (cs := #[.string t173, .string (⟨#[]⟩ : ByteArray)]) ?_ 1 _ rfl; (with_reducible repeat (first | refine blk_drewN ?_ _ | refine blk_drew ?_ | refine blk_alloc ?_ _)); refine blk_put (cs := #[.string (⟨#[]⟩ : ByteArray), .string (⟨#[]⟩ : ByteArray)]) ?_ 0 _ rfl; (with_reducible repeat (first | refine blk_drewN ?_ _ | refine blk_drew ?_ | refine blk_alloc ?_ _)); refine blk_far ?_ NB152_160.out _; (with_reducible repeat (first | refine blk_drewN ?_ _ | refine blk_drew ?_ | refine blk_alloc ?_ _)); refine blk_far ?_ NB152_160.out _; exact lb BK152.out) Tryz.underlying25 rfl (by kernel_rfl)) rfl ?_
    exact ⟨lx, by exact lI54 HI0.out, by exact lB HB.out, by exact lK HK.out⟩
  rw [if_neg c35] at H
  have c35b0 : (t161 == 2) = false := beq_eq_false_iff_ne.mpr c35
  have c35b1 : (t161 != 2) = true := bne_iff_ne.mpr c35
  by_cases c51 : t161 = 3
  rotate_left
  · rw [if_neg c51] at H
    have c51b0 : (t161 == 3) = false := beq_eq_false_iff_ne.mpr c51
    have c51b1 : (t161 != 3) = true := bne_iff_ne.mpr c51
    simp only [Option.some.injEq, Prod.mk.injEq] at H
    obtain ⟨rfl, rfl, rfl, rfl⟩ := H
    go_enter Tryz.func25, Tryz.ntmps25
    go_wp2_with (first | ((with_reducible refine gate_dst (N := 4) rfl ?_); refine box_event ?hg (N := 4) ?hd (cs := #[.string (⟨#[]⟩ : ByteArray), .string (⟨#[]⟩ : ByteArray)]) (t := 25) ?hr ?_; (case hd => rfl); (case hg => rfl); (case hr => exact lr); intro gb152 hg w67 hbox hb; have n0_ := Aside0.mk (IsS54.below (lI54 HI0.out) hb); have n1_ := Aside0.mk (KeepBut.trans (lK HK.out) (KeepBut.of_below hb g none) (.inl rfl)); have n2_ := Aside0.mk (below_step (lB HB.out) hb); have n3_ := Aside0.mk (hbox); have n4_ := Aside0.mk ((by rw [hg]; exact (keep_size (w := w) (g := g) (row := none) (lK HK.out)) : w.heap.size ≤ gb152)); have n5_ := Aside0.mk ((Nat.le_trans HW0.out (by rw [hg]; exact (keep_size (w := w) (g := g) (row := none) (lK HK.out)) : w.heap.size ≤ gb152) : w0.heap.size ≤ gb152)); have n6_ := Aside0.mk ((by rw [hg]; exact Nat.ne_of_lt (IsS54.lt (show IsS54 w0 _ g s0_0 s0_1 s0_2 from by exact lI54 HI0.out)) : g ≠ gb152)); have n7_ := Aside0.mk ((by rw [hg]; exact Nat.ne_of_gt (IsS54.lt (show IsS54 w0 _ g s0_0 s0_1 s0_2 from by exact lI54 HI0.out)) : gb152 ≠ g)); clear HI0 HK HB; have HI0 := n0_; have HK := n1_; have HB := n2_; have BK152 := n3_; have GW152 := n4_; have GE152 := n5_; have NB0_152 := n6_; have NB152_0 := n7_; clear n0_ n1_ n2_ n3_ n4_ n5_ n6_ n7_; clear hb hbox hg) | ((with_reducible refine gate_callee (f := 49) rfl ?_); refine goesL_ (some 10) rfl rfl Tryz.func49 (by kernel_rfl) rfl #[.pointer (some ⟨g, 0, none⟩), .int .i64 (wrap64 (a1 + 1))] rfl lm ?_; (with_reducible refine (spec_l1Cur_pick.calls g s0_0 s0_1 s0_2 (wrap64 (a1 + 1)) t153 t154 t155 w0 _ ?side1 ?side2 A3.out).mono ?_); (case side1 => exact lI54 HI0.out); (case side2 => exact lB HB.out); rintro e w68 ⟨rfl, hi, hb, hk⟩; refine ⟨_, rfl, ?_⟩; have n0_ := Aside0.mk (KeepBut.blk hk (g' := gb152) (o := .cells #[.string (⟨#[]⟩ : ByteArray), .string (⟨#[]⟩ : ByteArray)] 25 (0, 0)) (lb BK152.out) NB152_0.out (by simp)); have n1_ := Aside0.mk (KeepBut.trans (lK HK.out) hk (.inl rfl)); have n2_ := Aside0.mk (hb); have n3_ := Aside0.mk (hi); clear BK152 HK HB HI0; have BK152 := n0_; have HK := n1_; have HB := n2_; have HI0 := n3_; clear n0_ n1_ n2_ n3_; (try clear hb); (try clear hb2); (try clear hk); (try clear hi)) | ((with_reducible refine gate_callee (f := 65) rfl ?_); refine goesL_ (some 11) rfl rfl Tryz.func65 (by kernel_rfl) rfl #[.pointer (some ⟨g, 0, none⟩), .int .i64 t153] rfl lm ?_; (with_reducible refine (spec_l1Cur_surePair.calls k g s0_0 t154 t155 t153 t156 t157 t158 t159 w0 _ ?side1 ?side2 A4.out).mono ?_); (case side1 => exact lI54 HI0.out); (case side2 => exact lB HB.out); rintro e w69 ⟨rfl, hi, hb, hk⟩; refine ⟨_, rfl, ?_⟩; have n0_ := Aside0.mk (KeepBut.blk hk (g' := gb152) (o := .cells #[.string (⟨#[]⟩ : ByteArray), .string (⟨#[]⟩ : ByteArray)] 25 (0, 0)) (lb BK152.out) NB152_0.out (by simp)); have n1_ := Aside0.mk (KeepBut.trans (lK HK.out) hk (.inl rfl)); have n2_ := Aside0.mk (hb); have n3_ := Aside0.mk (hi); clear BK152 HK HB HI0; have BK152 := n0_; have HK := n1_; have HB := n2_; have HI0 := n3_; clear n0_ n1_ n2_ n3_; (try clear hb); (try clear hb2); (try clear hk); (try clear hi)) | ((with_reducible refine gate_dst (N := 5) rfl ?_); refine box_event ?hg (N := 5) ?hd (cs := #[.string (⟨#[]⟩ : ByteArray), .string (⟨#[]⟩ : ByteArray)]) (t := 25) ?hr ?_; (case hd => rfl); (case hg => rfl); (case hr => exact lr); intro gb160 hg w70 hbox hb; have n0_ := Aside0.mk (IsS54.below (lI54 HI0.out) hb); have n1_ := Aside0.mk (blk_below (lb BK152.out) hb); have n2_ := Aside0.mk (KeepBut.trans (lK HK.out) (KeepBut.of_below hb g none) (.inl rfl)); have n3_ := Aside0.mk (below_step (lB HB.out) hb); have n4_ := Aside0.mk (hbox); have n5_ := Aside0.mk ((by rw [hg]; exact (keep_size (w := w) (g := g) (row := none) (lK HK.out)) : w.heap.size ≤ gb160)); have n6_ := Aside0.mk ((Nat.le_trans HW0.out (by rw [hg]; exact (keep_size (w := w) (g := g) (row := none) (lK HK.out)) : w.heap.size ≤ gb160) : w0.heap.size ≤ gb160)); have n7_ := na hg (lb BK152.out); have n8_ := nz hg (lb BK152.out); have n9_ := Aside0.mk ((by rw [hg]; exact Nat.ne_of_lt (IsS54.lt (show IsS54 w0 _ g s0_0 t158 t159 from by exact lI54 HI0.out)) : g ≠ gb160)); have n10_ := Aside0.mk ((by rw [hg]; exact Nat.ne_of_gt (IsS54.lt (show IsS54 w0 _ g s0_0 t158 t159 from by exact lI54 HI0.out)) : gb160 ≠ g)); clear HI0 BK152 HK HB; have HI0 := n0_; have BK152 := n1_; have HK := n2_; have HB := n3_; have BK160 := n4_; have GW160 := n5_; have GE160 := n6_; have NB152_160 := n7_; have NB160_152 := n8_; have NB0_160 := n9_; have NB160_0 := n10_; clear n0_ n1_ n2_ n3_ n4_ n5_ n6_ n7_ n8_ n9_ n10_; clear hb hbox hg; have hnb71 := NB160_152.out; have hnc71 := NB152_160.out; have hnb72 := NB160_0.out; have hnc72 := NB0_160.out; have hcz73_0 : w70.cell? ⟨gb160, 0, none⟩ = some (.string (⟨#[]⟩ : ByteArray)) := (blk_cell BK160.out 0).trans rfl; have hcz73_1 : w70.cell? ⟨gb160, 1, none⟩ = some (.string (⟨#[]⟩ : ByteArray)) := (blk_cell BK160.out 1).trans rfl; have hfz73_0 := blk_frozen BK160.out 0; have hfz73_1 := blk_frozen BK160.out 1) | ((with_reducible refine gate_callee (f := 49) rfl ?_); refine goesL_ (some 13) rfl rfl Tryz.func49 (by kernel_rfl) rfl #[.pointer (some ⟨g, 0, none⟩), .int .i64 14] rfl lm ?_; (with_reducible refine (spec_l1Cur_pick.calls g s0_0 t158 t159 14 t161 t162 t163 w0 _ ?side1 ?side2 A5.out).mono ?_); (case side1 => exact lI54 HI0.out); (case side2 => exact lB HB.out); rintro e w74 ⟨rfl, hi, hb, hk⟩; refine ⟨_, rfl, ?_⟩; have n0_ := Aside0.mk (KeepBut.blk hk (g' := gb152) (o := .cells #[.string (⟨#[]⟩ : ByteArray), .string (⟨#[]⟩ : ByteArray)] 25 (0, 0)) (by (with_reducible repeat (first | refine blk_drewN ?_ _ | refine blk_drew ?_ | refine blk_alloc ?_ _)); refine blk_far ?_ NB152_160.out _; (with_reducible repeat (first | refine blk_drewN ?_ _ | refine blk_drew ?_ | refine blk_alloc ?_ _)); refine blk_far ?_ NB152_160.out _; exact lb BK152.out) NB152_0.out (by simp)); have n1_ := Aside0.mk (KeepBut.blk hk (g' := gb160) (o := .cells #[.string t156, .string t157] 25 (0, 0)) (by (with_reducible repeat (first | refine blk_drewN ?_ _ | refine blk_drew ?_ | refine blk_alloc ?_ _)); refine blk_put (cs := #[.string t156, .string (⟨#[]⟩ : ByteArray)]) ?_ 1 _ rfl; (with_reducible repeat (first | refine blk_drewN ?_ _ | refine blk_drew ?_ | refine blk_alloc ?_ _)); refine blk_put (cs := #[.string (⟨#[]⟩ : ByteArray), .string (⟨#[]⟩ : ByteArray)]) ?_ 0 _ rfl; exact lb BK160.out) NB160_0.out (by simp)); have n2_ := Aside0.mk (KeepBut.trans (lK HK.out) hk (.inl rfl)); have n3_ := Aside0.mk (hb); have n4_ := Aside0.mk (hi); clear BK152 BK160 HK HB HI0; have BK152 := n0_; have BK160 := n1_; have HK := n2_; have HB := n3_; have HI0 := n4_; clear n0_ n1_ n2_ n3_ n4_; (try clear hb); (try clear hb2); (try clear hk); (try clear hi); have hcz75_0 : w74.cell? ⟨gb160, 0, none⟩ = some (.string t156) := (blk_cell BK160.out 0).trans rfl; have hcz75_1 : w74.cell? ⟨gb160, 1, none⟩ = some (.string t157) := (blk_cell BK160.out 1).trans rfl; have hfz75_0 := blk_frozen BK160.out 0; have hfz75_1 := blk_frozen BK160.out 1; have hnb76 := NB152_0.out; have hnc76 := NB0_152.out; have hcz77_0 : w74.cell? ⟨gb152, 0, none⟩ = some (.string (⟨#[]⟩ : ByteArray)) := (blk_cell BK152.out 0).trans rfl; have hcz77_1 : w74.cell? ⟨gb152, 1, none⟩ = some (.string (⟨#[]⟩ : ByteArray)) := (blk_cell BK152.out 1).trans rfl; have hfz77_0 := blk_frozen BK152.out 0; have hfz77_1 := blk_frozen BK152.out 1))
    refine bodyPost_ret (results_cell_row rfl _ _ gb152 25 #[.string t156, .string t157] (0, 0) _ rfl (by (with_reducible repeat (first | refine blk_drewN ?_ _ | refine blk_drew ?_ | refine blk_alloc ?_ _)); refine blk_put (cs := #[.string t156, .string (⟨#[]⟩ : ByteArray)]) ?_ 1 _ rfl; (with_reducible repeat (first | refine blk_drewN ?_ _ | refine blk_drew ?_ | refine blk_alloc ?_ _)); refine blk_put (cs := #[.string (⟨#[]⟩ : ByteArray), .string (⟨#[]⟩ : ByteArray)]) ?_ 0 _ rfl; exact lb BK152.out) Tryz.underlying25 rfl (by kernel_rfl)) rfl ?_
    exact ⟨lx, by exact lI54 HI0.out, by exact lB HB.out, by exact lK HK.out⟩

  rw [if_pos c51] at H
  have c51b0 : (t161 == 3) = true := beq_iff_eq.mpr c51
  have c51b1 : (t161 != 3) = false := bne_eq_false_iff_eq.mpr c51
  clear c51
  replace H := Option.bind_eq_some_iff.mp H
  obtain ⟨⟨t177, t178, t179⟩, A520, H⟩ := H
  replace H : ((spec_prGenerator.f t177).bind fun bt180 => (some (bt180.1, bt180.2, t178, t179))) = some (r1, r2, r3, r4) := H
  have A52 := Aside0.mk A520
  clear A520
  replace H := Option.bind_eq_some_iff.mp H
  obtain ⟨⟨t180, t181⟩, A530, H⟩ := H
  replace H : (some (t180, t181, t178, t179)) = some (r1, r2, r3, r4) := H
  have A53 := Aside0.mk A530
  clear A530
  simp only [Option.some.injEq, Prod.mk.injEq] at H
  obtain ⟨rfl, rfl, rfl, rfl⟩ := H
  go_enter Tryz.func25, Tryz.ntmps25
  go_wp2_with (first | ((with_reducible refine gate_dst (N := 4) rfl ?_); refine box_event ?hg (N := 4) ?hd (cs := #[.string (⟨#[]⟩ : ByteArray), .string (⟨#[]⟩ : ByteArray)]) (t := 25) ?hr ?_; (case hd => rfl); (case hg => rfl); (case hr => exact lr); intro gb152 hg w54 hbox hb; have n0_ := Aside0.mk (IsS54.below (lI54 HI0.out) hb); have n1_ := Aside0.mk (KeepBut.trans (lK HK.out) (KeepBut.of_below hb g none) (.inl rfl)); have n2_ := Aside0.mk (below_step (lB HB.out) hb); have n3_ := Aside0.mk (hbox); have n4_ := Aside0.mk ((by rw [hg]; exact (keep_size (w := w) (g := g) (row := none) (lK HK.out)) : w.heap.size ≤ gb152)); have n5_ := Aside0.mk ((Nat.le_trans HW0.out (by rw [hg]; exact (keep_size (w := w) (g := g) (row := none) (lK HK.out)) : w.heap.size ≤ gb152) : w0.heap.size ≤ gb152)); have n6_ := Aside0.mk ((by rw [hg]; exact Nat.ne_of_lt (IsS54.lt (show IsS54 w0 _ g s0_0 s0_1 s0_2 from by exact lI54 HI0.out)) : g ≠ gb152)); have n7_ := Aside0.mk ((by rw [hg]; exact Nat.ne_of_gt (IsS54.lt (show IsS54 w0 _ g s0_0 s0_1 s0_2 from by exact lI54 HI0.out)) : gb152 ≠ g)); clear HI0 HK HB; have HI0 := n0_; have HK := n1_; have HB := n2_; have BK152 := n3_; have GW152 := n4_; have GE152 := n5_; have NB0_152 := n6_; have NB152_0 := n7_; clear n0_ n1_ n2_ n3_ n4_ n5_ n6_ n7_; clear hb hbox hg) | ((with_reducible refine gate_callee (f := 49) rfl ?_); refine goesL_ (some 10) rfl rfl Tryz.func49 (by kernel_rfl) rfl #[.pointer (some ⟨g, 0, none⟩), .int .i64 (wrap64 (a1 + 1))] rfl lm ?_; (with_reducible refine (spec_l1Cur_pick.calls g s0_0 s0_1 s0_2 (wrap64 (a1 + 1)) t153 t154 t155 w0 _ ?side1 ?side2 A3.out).mono ?_); (case side1 => exact lI54 HI0.out); (case side2 => exact lB HB.out); rintro e w55 ⟨rfl, hi, hb, hk⟩; refine ⟨_, rfl, ?_⟩; have n0_ := Aside0.mk (KeepBut.blk hk (g' := gb152) (o := .cells #[.string (⟨#[]⟩ : ByteArray), .string (⟨#[]⟩ : ByteArray)] 25 (0, 0)) (lb BK152.out) NB152_0.out (by simp)); have n1_ := Aside0.mk (KeepBut.trans (lK HK.out) hk (.inl rfl)); have n2_ := Aside0.mk (hb); have n3_ := Aside0.mk (hi); clear BK152 HK HB HI0; have BK152 := n0_; have HK := n1_; have HB := n2_; have HI0 := n3_; clear n0_ n1_ n2_ n3_; (try clear hb); (try clear hb2); (try clear hk); (try clear hi)) | ((with_reducible refine gate_callee (f := 65) rfl ?_); refine goesL_ (some 11) rfl rfl Tryz.func65 (by kernel_rfl) rfl #[.pointer (some ⟨g, 0, none⟩), .int .i64 t153] rfl lm ?_; (with_reducible refine (spec_l1Cur_surePair.calls k g s0_0 t154 t155 t153 t156 t157 t158 t159 w0 _ ?side1 ?side2 A4.out).mono ?_); (case side1 => exact lI54 HI0.out); (case side2 => exact lB HB.out); rintro e w56 ⟨rfl, hi, hb, hk⟩; refine ⟨_, rfl, ?_⟩; have n0_ := Aside0.mk (KeepBut.blk hk (g' := gb152) (o := .cells #[.string (⟨#[]⟩ : ByteArray), .string (⟨#[]⟩ : ByteArray)] 25 (0, 0)) (lb BK152.out) NB152_0.out (by simp)); have n1_ := Aside0.mk (KeepBut.trans (lK HK.out) hk (.inl rfl)); have n2_ := Aside0.mk (hb); have n3_ := Aside0.mk (hi); clear BK152 HK HB HI0; have BK152 := n0_; have HK := n1_; have HB := n2_; have HI0 := n3_; clear n0_ n1_ n2_ n3_; (try clear hb); (try clear hb2); (try clear hk); (try clear hi)) | ((with_reducible refine gate_dst (N := 5) rfl ?_); refine box_event ?hg (N := 5) ?hd (cs := #[.string (⟨#[]⟩ : ByteArray), .string (⟨#[]⟩ : ByteArray)]) (t := 25) ?hr ?_; (case hd => rfl); (case hg => rfl); (case hr => exact lr); intro gb160 hg w57 hbox hb; have n0_ := Aside0.mk (IsS54.below (lI54 HI0.out) hb); have n1_ := Aside0.mk (blk_below (lb BK152.out) hb); have n2_ := Aside0.mk (KeepBut.trans (lK HK.out) (KeepBut.of_below hb g none) (.inl rfl)); have n3_ := Aside0.mk (below_step (lB HB.out) hb); have n4_ := Aside0.mk (hbox); have n5_ := Aside0.mk ((by rw [hg]; exact (keep_size (w := w) (g := g) (row := none) (lK HK.out)) : w.heap.size ≤ gb160)); have n6_ := Aside0.mk ((Nat.le_trans HW0.out (by rw [hg]; exact (keep_size (w := w) (g := g) (row := none) (lK HK.out)) : w.heap.size ≤ gb160) : w0.heap.size ≤ gb160)); have n7_ := na hg (lb BK152.out); have n8_ := nz hg (lb BK152.out); have n9_ := Aside0.mk ((by rw [hg]; exact Nat.ne_of_lt (IsS54.lt (show IsS54 w0 _ g s0_0 t158 t159 from by exact lI54 HI0.out)) : g ≠ gb160)); have n10_ := Aside0.mk ((by rw [hg]; exact Nat.ne_of_gt (IsS54.lt (show IsS54 w0 _ g s0_0 t158 t159 from by exact lI54 HI0.out)) : gb160 ≠ g)); clear HI0 BK152 HK HB; have HI0 := n0_; have BK152 := n1_; have HK := n2_; have HB := n3_; have BK160 := n4_; have GW160 := n5_; have GE160 := n6_; have NB152_160 := n7_; have NB160_152 := n8_; have NB0_160 := n9_; have NB160_0 := n10_; clear n0_ n1_ n2_ n3_ n4_ n5_ n6_ n7_ n8_ n9_ n10_; clear hb hbox hg; have hnb58 := NB160_152.out; have hnc58 := NB152_160.out; have hnb59 := NB160_0.out; have hnc59 := NB0_160.out; have hcz60_0 : w57.cell? ⟨gb160, 0, none⟩ = some (.string (⟨#[]⟩ : ByteArray)) := (blk_cell BK160.out 0).trans rfl; have hcz60_1 : w57.cell? ⟨gb160, 1, none⟩ = some (.string (⟨#[]⟩ : ByteArray)) := (blk_cell BK160.out 1).trans rfl; have hfz60_0 := blk_frozen BK160.out 0; have hfz60_1 := blk_frozen BK160.out 1) | ((with_reducible refine gate_callee (f := 49) rfl ?_); refine goesL_ (some 13) rfl rfl Tryz.func49 (by kernel_rfl) rfl #[.pointer (some ⟨g, 0, none⟩), .int .i64 14] rfl lm ?_; (with_reducible refine (spec_l1Cur_pick.calls g s0_0 t158 t159 14 t161 t162 t163 w0 _ ?side1 ?side2 A5.out).mono ?_); (case side1 => exact lI54 HI0.out); (case side2 => exact lB HB.out); rintro e w61 ⟨rfl, hi, hb, hk⟩; refine ⟨_, rfl, ?_⟩; have n0_ := Aside0.mk (KeepBut.blk hk (g' := gb152) (o := .cells #[.string (⟨#[]⟩ : ByteArray), .string (⟨#[]⟩ : ByteArray)] 25 (0, 0)) (by (with_reducible repeat (first | refine blk_drewN ?_ _ | refine blk_drew ?_ | refine blk_alloc ?_ _)); refine blk_far ?_ NB152_160.out _; (with_reducible repeat (first | refine blk_drewN ?_ _ | refine blk_drew ?_ | refine blk_alloc ?_ _)); refine blk_far ?_ NB152_160.out _; exact lb BK152.out) NB152_0.out (by simp)); have n1_ := Aside0.mk (KeepBut.blk hk (g' := gb160) (o := .cells #[.string t156, .string t157] 25 (0, 0)) (by (with_reducible repeat (first | refine blk_drewN ?_ _ | refine blk_drew ?_ | refine blk_alloc ?_ _)); refine blk_put (cs := #[.string t156, .string (⟨#[]⟩ : ByteArray)]) ?_ 1 _ rfl; (with_reducible repeat (first | refine blk_drewN ?_ _ | refine blk_drew ?_ | refine blk_alloc ?_ _)); refine blk_put (cs := #[.string (⟨#[]⟩ : ByteArray), .string (⟨#[]⟩ : ByteArray)]) ?_ 0 _ rfl; exact lb BK160.out) NB160_0.out (by simp)); have n2_ := Aside0.mk (KeepBut.trans (lK HK.out) hk (.inl rfl)); have n3_ := Aside0.mk (hb); have n4_ := Aside0.mk (hi); clear BK152 BK160 HK HB HI0; have BK152 := n0_; have BK160 := n1_; have HK := n2_; have HB := n3_; have HI0 := n4_; clear n0_ n1_ n2_ n3_ n4_; (try clear hb); (try clear hb2); (try clear hk); (try clear hi)) | ((with_reducible refine gate_callee (f := 49) rfl ?_); refine goesL_ (some 37) rfl rfl Tryz.func49 (by kernel_rfl) rfl #[.pointer (some ⟨g, 0, none⟩), .int .i64 4] rfl lm ?_; (with_reducible refine (spec_l1Cur_pick.calls g s0_0 t162 t163 4 t177 t178 t179 w0 _ ?side1 ?side2 A52.out).mono ?_); (case side1 => exact lI54 HI0.out); (case side2 => exact lB HB.out); rintro e w62 ⟨rfl, hi, hb, hk⟩; refine ⟨_, rfl, ?_⟩; have n0_ := Aside0.mk (KeepBut.blk hk (g' := gb152) (o := .cells #[.string (⟨#[]⟩ : ByteArray), .string (⟨#[]⟩ : ByteArray)] 25 (0, 0)) (lb BK152.out) NB152_0.out (by simp)); have n1_ := Aside0.mk (KeepBut.blk hk (g' := gb160) (o := .cells #[.string t156, .string t157] 25 (0, 0)) (lb BK160.out) NB160_0.out (by simp)); have n2_ := Aside0.mk (KeepBut.trans (lK HK.out) hk (.inl rfl)); have n3_ := Aside0.mk (hb); have n4_ := Aside0.mk (hi); clear BK152 BK160 HK HB HI0; have BK152 := n0_; have BK160 := n1_; have HK := n2_; have HB := n3_; have HI0 := n4_; clear n0_ n1_ n2_ n3_ n4_; (try clear hb); (try clear hb2); (try clear hk); (try clear hi)) | ((with_reducible refine gate_callee (f := 68) rfl ?_); refine goesL_ (some 38) rfl rfl Tryz.func68 (by kernel_rfl) rfl #[.int .i64 t177] rfl lm ?_; (with_reducible refine (spec_prGenerator.calls t177 t180 t181 _ A53.out).mono ?_); rintro e w63 ⟨rfl, hb⟩; refine ⟨_, rfl, ?_⟩; have n0_ := Aside0.mk (IsS54.below (lI54 HI0.out) hb); have n1_ := Aside0.mk (blk_below (lb BK152.out) hb); have n2_ := Aside0.mk (blk_below (lb BK160.out) hb); have n3_ := Aside0.mk (KeepBut.trans (lK HK.out) (KeepBut.of_below hb g none) (.inl rfl)); have n4_ := Aside0.mk (below_step (lB HB.out) hb); clear HI0 BK152 BK160 HK HB; have HI0 := n0_; have BK152 := n1_; have BK160 := n2_; have HK := n3_; have HB := n4_; clear n0_ n1_ n2_ n3_ n4_; (try clear hb); (try clear hb2); (try clear hk); (try clear hi); have hcz64_0 : w63.cell? ⟨gb160, 0, none⟩ = some (.string t156) := (blk_cell BK160.out 0).trans rfl; have hcz64_1 : w63.cell? ⟨gb160, 1, none⟩ = some (.string t157) := (blk_cell BK160.out 1).trans rfl; have hfz64_0 := blk_frozen BK160.out 0; have hfz64_1 := blk_frozen BK160.out 1; have hnb65 := NB152_0.out; have hnc65 := NB0_152.out; have hcz66_0 : w63.cell? ⟨gb152, 0, none⟩ = some (.string (⟨#[]⟩ : ByteArray)) := (blk_cell BK152.out 0).trans rfl; have hcz66_1 : w63.cell? ⟨gb152, 1, none⟩ = some (.string (⟨#[]⟩ : ByteArray)) := (blk_cell BK152.out 1).trans rfl; have hfz66_0 := blk_frozen BK152.out 0; have hfz66_1 := blk_frozen BK152.out 1))
  refine bodyPost_ret (results_cell_row rfl _ _ gb152 25 #[.string t180, .string t181] (0, 0) _ rfl (by (with_reducible repeat (first | refine blk_drewN ?_ _ | refine blk_drew ?_ | refine blk_alloc ?_ _)); refine blk_put (cs := #[.string t180, .string (⟨#[]⟩ : ByteArray)]) ?_ 1 _ rfl; (with_reducible repeat (first | refine blk_drewN ?_ _ | refine blk_drew ?_ | refine blk_alloc ?_ _)); refine blk_put (cs := #[.string (⟨#[]⟩ : ByteArray), .string (⟨#[]⟩ : ByteArray)]) ?_ 0 _ rfl; (with_reducible repeat (first | refine blk_drewN ?_ _ | refine blk_drew ?_ | refine blk_alloc ?_ _)); refine blk_far ?_ NB152_160.out _; (with_reducible repeat (first | refine blk_drewN ?_ _ | refine blk_drew ?_ | refine blk_alloc ?_ _)); refine blk_far ?_ NB152_160.out _; exact lb BK152.out) Tryz.underlying25 rfl (by kernel_rfl)) rfl ?_
  exact ⟨lx, by exact lI54 HI0.out, by exact lB HB.out, by exact lK HK.out⟩
def spec_l1Cur_short.l0 : Nat → List Int → Int → Int → List Int → Int → Int → ByteArray → ByteArray → Option (ByteArray × ByteArray × Int × Int)
  | 0, _, _, _, _, _, _, _, _ => none
  | k + 1, x11, x12, x13, x1000, x1001, x1002, x208000, x208001 => if x13 < x12 then (if 0 ≤ x13 then (if x13 < (x11.length : Int) then ((spec_wdLetter.f (rd x11 x13)).bind fun bt214 => ((spec_prTimes.f x208000 x208001 bt214.1 bt214.2).bind fun bt216 => (spec_l1Cur_short.l0 k x11 x12 (wrap64 (x13 + 1)) x1000 x1001 x1002 bt216.1 bt216.2))) else (none)) else (none)) else (some (x208000, x208001, x1001, x1002))
def spec_l1Cur_short.f (k : Nat) (s0_0 : List Int) (s0_1 : Int) (s0_2 : Int) (a1 : Int) : Option (ByteArray × ByteArray × Int × Int) := (spec_prUnit.f).bind fun bt205 => ((spec_l1Cur_sureWord.f k s0_0 s0_1 s0_2 a1 2).bind fun bt208 => (spec_l1Cur_short.l0 k bt208.1 (bt208.1.length : Int) 0 s0_0 bt208.2.1 bt208.2.2 bt205.1 bt205.2))
theorem spec_l1Cur_short.mono_l : ∀ k, (∀ y0 y1 y2 y3 y4 y5 y6 y7, LeO (spec_l1Cur_short.l0 k y0 y1 y2 y3 y4 y5 y6 y7) (spec_l1Cur_short.l0 (k + 1) y0 y1 y2 y3 y4 y5 y6 y7))
  | 0 => fun _ _ _ _ _ _ _ _ r h => by simp [spec_l1Cur_short.l0] at h
  | k + 1 => by
    have ih0 := spec_l1Cur_short.mono_l k
    · intro y0 y1 y2 y3 y4 y5 y6 y7
      unfold spec_l1Cur_short.l0
      repeat' first
      | (with_reducible exact ih0 _ _ _ _ _ _ _ _)
      | (with_reducible exact spec_l1Cur_sureWord.mono _ _ _ _ _ _)
      | (with_reducible exact LeO.refl _)
      | (with_reducible exact LeO.none _)
      | (with_reducible refine LeO.ite ?_ ?_)
      | (with_reducible refine LeO.bind ?_ (fun _ => ?_))
      | exact ih0 _ _ _ _ _ _ _ _
      | exact spec_l1Cur_sureWord.mono _ _ _ _ _ _
      | exact LeO.none _
      | refine LeO.ite ?_ ?_
      | refine LeO.bind ?_ (fun _ => ?_)
theorem spec_l1Cur_short.mono : ∀ a0 a1 a2 a3 k, LeO (spec_l1Cur_short.f k a0 a1 a2 a3) (spec_l1Cur_short.f (k + 1) a0 a1 a2 a3) := by
  intro a0 a1 a2 a3 k
  have ih0 := spec_l1Cur_short.mono_l k
  unfold spec_l1Cur_short.f
  repeat' first
      | (with_reducible exact ih0 _ _ _ _ _ _ _ _)
      | (with_reducible exact spec_l1Cur_sureWord.mono _ _ _ _ _ _)
      | (with_reducible exact LeO.refl _)
      | (with_reducible exact LeO.none _)
      | (with_reducible refine LeO.ite ?_ ?_)
      | (with_reducible refine LeO.bind ?_ (fun _ => ?_))
      | exact ih0 _ _ _ _ _ _ _ _
      | exact spec_l1Cur_sureWord.mono _ _ _ _ _ _
      | exact LeO.none _
      | refine LeO.ite ?_ ?_
      | refine LeO.bind ?_ (fun _ => ?_)
set_option maxHeartbeats 8000000 in
set_option maxRecDepth 100000 in
theorem spec_l1Cur_short.calls (k : Nat) (g : Nat) (s0_0 : List Int) (s0_1 : Int) (s0_2 : Int) (a1 : Int) (r1 : ByteArray) (r2 : ByteArray) (r3 : Int) (r4 : Int) (w0 w : World) (hI : IsS54 w0 w g s0_0 s0_1 s0_2) (hB : Below w0.heap.size w0 w) (h : spec_l1Cur_short.f k s0_0 s0_1 s0_2 a1 = some (r1, r2, r3, r4)) :
    Calls Tryz.prog 30 #[.pointer (some ⟨g, 0, none⟩), .int .i64 a1] w fun e w' => e = .returned (.agg #[.string r1, .string r2]) ∧ IsS54 w0 w' g s0_0 r3 r4 ∧ Below w0.heap.size w0 w' ∧ KeepBut w w' g none := by
  have hu25 := Tryz.underlying25
  have HI0 := Aside0.mk hI
  have HK := Aside0.mk (KeepBut.refl w g none)
  have HL := Aside0.mk hB.size
  clear hI
  have HW0 := Aside0.mk hB.size
  have HB := Aside0.mk hB
  clear hB
  have H : ((spec_prUnit.f).bind fun bt205 => ((spec_l1Cur_sureWord.f k s0_0 s0_1 s0_2 a1 2).bind fun bt208 => (spec_l1Cur_short.l0 k bt208.1 (bt208.1.length : Int) 0 s0_0 bt208.2.1 bt208.2.2 bt205.1 bt205.2))) = some (r1, r2, r3, r4) := h
  clear h
  replace H := Option.bind_eq_some_iff.mp H
  obtain ⟨⟨t205, t206⟩, A30, H⟩ := H
  replace H : ((spec_l1Cur_sureWord.f k s0_0 s0_1 s0_2 a1 2).bind fun bt208 => (spec_l1Cur_short.l0 k bt208.1 (bt208.1.length : Int) 0 s0_0 bt208.2.1 bt208.2.2 t205 t206)) = some (r1, r2, r3, r4) := H
  have A3 := Aside0.mk A30
  clear A30
  replace H := Option.bind_eq_some_iff.mp H
  obtain ⟨⟨t208, t211, t212⟩, A40, H⟩ := H
  replace H : (spec_l1Cur_short.l0 k t208 (t208.length : Int) 0 s0_0 t211 t212 t205 t206) = some (r1, r2, r3, r4) := H
  have A4 := Aside0.mk A40
  clear A40
  have H' := Aside0.mk H
  clear H
  go_enter Tryz.func30, Tryz.ntmps30
  go_wp2_with (first | ((with_reducible refine gate_dst (N := 4) rfl ?_); refine box_event ?hg (N := 4) ?hd (cs := #[.string (⟨#[]⟩ : ByteArray), .string (⟨#[]⟩ : ByteArray)]) (t := 25) ?hr ?_; (case hd => rfl); (case hg => rfl); (case hr => exact lr); intro gb204 hg w5 hbox hb; have n0_ := Aside0.mk (IsS54.below (lI54 HI0.out) hb); have n1_ := Aside0.mk (KeepBut.trans (lK HK.out) (KeepBut.of_below hb g none) (.inl rfl)); have n2_ := Aside0.mk (below_step (lB HB.out) hb); have n3_ := Aside0.mk (hbox); have n4_ := Aside0.mk ((by rw [hg]; exact (keep_size (w := w) (g := g) (row := none) (lK HK.out)) : w.heap.size ≤ gb204)); have n5_ := Aside0.mk ((Nat.le_trans HW0.out (by rw [hg]; exact (keep_size (w := w) (g := g) (row := none) (lK HK.out)) : w.heap.size ≤ gb204) : w0.heap.size ≤ gb204)); have n6_ := Aside0.mk ((by rw [hg]; exact Nat.ne_of_lt (IsS54.lt (show IsS54 w0 _ g s0_0 s0_1 s0_2 from by exact lI54 HI0.out)) : g ≠ gb204)); have n7_ := Aside0.mk ((by rw [hg]; exact Nat.ne_of_gt (IsS54.lt (show IsS54 w0 _ g s0_0 s0_1 s0_2 from by exact lI54 HI0.out)) : gb204 ≠ g)); clear HI0 HK HB; have HI0 := n0_; have HK := n1_; have HB := n2_; have BK204 := n3_; have GW204 := n4_; have GE204 := n5_; have NB0_204 := n6_; have NB204_0 := n7_; clear n0_ n1_ n2_ n3_ n4_ n5_ n6_ n7_; clear hb hbox hg) | ((with_reducible refine gate_callee (f := 72) rfl ?_); refine goesL_ (some 8) rfl rfl Tryz.func72 (by kernel_rfl) rfl #[] rfl lm ?_; (with_reducible refine (spec_prUnit.calls  t205 t206 _ A3.out).mono ?_); rintro e w6 ⟨rfl, hb⟩; refine ⟨_, rfl, ?_⟩; have n0_ := Aside0.mk (IsS54.below (lI54 HI0.out) hb); have n1_ := Aside0.mk (blk_below (lb BK204.out) hb); have n2_ := Aside0.mk (KeepBut.trans (lK HK.out) (KeepBut.of_below hb g none) (.inl rfl)); have n3_ := Aside0.mk (below_step (lB HB.out) hb); clear HI0 BK204 HK HB; have HI0 := n0_; have BK204 := n1_; have HK := n2_; have HB := n3_; clear n0_ n1_ n2_ n3_; (try clear hb); (try clear hb2); (try clear hk); (try clear hi)) | ((with_reducible refine gate_dst (N := 5) rfl ?_); refine box_event ?hg (N := 5) ?hd (cs := #[.string (⟨#[]⟩ : ByteArray), .string (⟨#[]⟩ : ByteArray)]) (t := 25) ?hr ?_; (case hd => rfl); (case hg => rfl); (case hr => exact lr); intro gb207 hg w7 hbox hb; have n0_ := Aside0.mk (IsS54.below (lI54 HI0.out) hb); have n1_ := Aside0.mk (blk_below (lb BK204.out) hb); have n2_ := Aside0.mk (KeepBut.trans (lK HK.out) (KeepBut.of_below hb g none) (.inl rfl)); have n3_ := Aside0.mk (below_step (lB HB.out) hb); have n4_ := Aside0.mk (hbox); have n5_ := Aside0.mk ((by rw [hg]; exact (keep_size (w := w) (g := g) (row := none) (lK HK.out)) : w.heap.size ≤ gb207)); have n6_ := Aside0.mk ((Nat.le_trans HW0.out (by rw [hg]; exact (keep_size (w := w) (g := g) (row := none) (lK HK.out)) : w.heap.size ≤ gb207) : w0.heap.size ≤ gb207)); have n7_ := na hg (lb BK204.out); have n8_ := nz hg (lb BK204.out); have n9_ := Aside0.mk ((by rw [hg]; exact Nat.ne_of_lt (IsS54.lt (show IsS54 w0 _ g s0_0 s0_1 s0_2 from by exact lI54 HI0.out)) : g ≠ gb207)); have n10_ := Aside0.mk ((by rw [hg]; exact Nat.ne_of_gt (IsS54.lt (show IsS54 w0 _ g s0_0 s0_1 s0_2 from by exact lI54 HI0.out)) : gb207 ≠ g)); clear HI0 BK204 HK HB; have HI0 := n0_; have BK204 := n1_; have HK := n2_; have HB := n3_; have BK207 := n4_; have GW207 := n5_; have GE207 := n6_; have NB204_207 := n7_; have NB207_204 := n8_; have NB0_207 := n9_; have NB207_0 := n10_; clear n0_ n1_ n2_ n3_ n4_ n5_ n6_ n7_ n8_ n9_ n10_; clear hb hbox hg; have hnb8 := NB207_204.out; have hnc8 := NB204_207.out; have hnb9 := NB207_0.out; have hnc9 := NB0_207.out; have hcz10_0 : w7.cell? ⟨gb207, 0, none⟩ = some (.string (⟨#[]⟩ : ByteArray)) := (blk_cell BK207.out 0).trans rfl; have hcz10_1 : w7.cell? ⟨gb207, 1, none⟩ = some (.string (⟨#[]⟩ : ByteArray)) := (blk_cell BK207.out 1).trans rfl; have hfz10_0 := blk_frozen BK207.out 0; have hfz10_1 := blk_frozen BK207.out 1) | ((with_reducible refine gate_callee (f := 48) rfl ?_); refine goesL_ (some 11) rfl rfl Tryz.func48 (by kernel_rfl) rfl #[.pointer (some ⟨g, 0, none⟩), .int .i64 a1, .int .i64 2] rfl lm ?_; (with_reducible refine (spec_l1Cur_sureWord.calls k g s0_0 s0_1 s0_2 a1 2 t208 t211 t212 w0 _ ?side1 ?side2 A4.out).mono ?_); (case side1 => exact lI54 HI0.out); (case side2 => exact lB HB.out); rintro e w11 ⟨v209, rfl, ho0, hi, hb, hk⟩; refine ⟨_, rfl, ?_⟩; have n0_ := Aside0.mk (KeepBut.blk hk (g' := gb204) (o := .cells #[.string (⟨#[]⟩ : ByteArray), .string (⟨#[]⟩ : ByteArray)] 25 (0, 0)) (by (with_reducible repeat (first | refine blk_drewN ?_ _ | refine blk_drew ?_ | refine blk_alloc ?_ _)); refine blk_far ?_ NB204_207.out _; (with_reducible repeat (first | refine blk_drewN ?_ _ | refine blk_drew ?_ | refine blk_alloc ?_ _)); refine blk_far ?_ NB204_207.out _; exact lb BK204.out) NB204_0.out (by simp)); have n1_ := Aside0.mk (KeepBut.blk hk (g' := gb207) (o := .cells #[.string t205, .string t206] 25 (0, 0)) (by (with_reducible repeat (first | refine blk_drewN ?_ _ | refine blk_drew ?_ | refine blk_alloc ?_ _)); refine blk_put (cs := #[.string t205, .string (⟨#[]⟩ : ByteArray)]) ?_ 1 _ rfl; (with_reducible repeat (first | refine blk_drewN ?_ _ | refine blk_drew ?_ | refine blk_alloc ?_ _)); refine blk_put (cs := #[.string (⟨#[]⟩ : ByteArray), .string (⟨#[]⟩ : ByteArray)]) ?_ 0 _ rfl; exact lb BK207.out) NB207_0.out (by simp)); have n2_ := Aside0.mk (Kd.R_lower ho0 (keep_size (w := w) (g := g) (row := none) (lK HK.out))); have n3_ := Aside0.mk (KeepBut.trans (lK HK.out) hk (.inl rfl)); have n4_ := Aside0.mk (hb); have n5_ := Aside0.mk (hi); clear BK204 BK207 HK HB HI0; have BK204 := n0_; have BK207 := n1_; have HO210 := n2_; have HK := n3_; have HB := n4_; have HI0 := n5_; clear n0_ n1_ n2_ n3_ n4_ n5_; (try clear hb); (try clear hb2); (try clear hk); (try clear hi); (try clear ho0); obtain ⟨Ao12, co12, eo12⟩ := Kd.R_slice HO210.out; subst eo12))
  go_loopg [13] k (fun kq v13 w' => ∃ (x13_1 : Int) (x208000_1 : ByteArray) (x208001_1 : ByteArray), v13 = .int .i64 x13_1 ∧ Aside0 (spec_l1Cur_short.l0 kq t208 (t208.length : Int) x13_1 s0_0 t211 t212 x208000_1 x208001_1 = some (r1, r2, r3, r4)) ∧ Aside0 (kq ≤ k) ∧ Aside0 (Kd.R (Kd.int .i64) 3 w' w.heap.size (fun _ => True) (.slice Ao12 t208.length co12) t208) ∧ Aside0 (w'.heap[gb204]? = some (.cells #[.string (⟨#[]⟩ : ByteArray), .string (⟨#[]⟩ : ByteArray)] 25 (0, 0))) ∧ Aside0 (w'.heap[gb207]? = some (.cells #[.string x208000_1, .string x208001_1] 25 (0, 0))) ∧ Aside0 (IsS54 w0 w' g s0_0 t211 t212) ∧ Aside0 (KeepBut w w' g none) ∧ Aside0 (Below w0.heap.size w0 w'))
  case atStart => exact ⟨(0), (t205), (t206), (by first | rfl | (simp; done) | (simp [*]; done)), H', ⟨Nat.le_refl _⟩, ⟨by (with_reducible repeat (first | apply Kd.R_alloc | apply Kd.R_drewN | apply Kd.R_drew)); exact HO210.out⟩, ⟨lb BK204.out⟩, ⟨lb BK207.out⟩, ⟨by exact lI54 HI0.out⟩, ⟨by exact lK HK.out⟩, ⟨by exact lB HB.out⟩⟩
  case round =>
   clear H'
   (try clear hcz10_0)
   (try clear hcz10_1)
   (try clear hfz10_0)
   (try clear hfz10_1)
   obtain ⟨x13_1, x208000_1, x208001_1, rfl, HA, HK1, HO_11, BK204, BK207, HI0, HK, HB⟩ := hrel
   cases gk with
   | zero => exact absurd HA.out (by simp [spec_l1Cur_short.l0])
   | succ k1 =>
     have H := HA.out
     clear HA
     simp only [spec_l1Cur_short.l0] at H
     by_cases c13 : x13_1 < (t208.length : Int)
     · rw [if_pos c13] at H
       have c13b0 : decide (x13_1 < (t208.length : Int)) = true := decide_eq_true c13
       clear c13
       by_cases c14 : 0 ≤ x13_1
       · rw [if_pos c14] at H
         have c14b0 : decide (0 ≤ x13_1) = true := decide_eq_true c14
         clear c14
         by_cases c15 : x13_1 < (t208.length : Int)
         · rw [if_pos c15] at H
           have c15b0 : decide (x13_1 < (t208.length : Int)) = true := decide_eq_true c15
           clear c15
           replace H := Option.bind_eq_some_iff.mp H
           obtain ⟨⟨t214, t215⟩, A160, H⟩ := H
           replace H : ((spec_prTimes.f x208000_1 x208001_1 t214 t215).bind fun bt216 => (spec_l1Cur_short.l0 k1 t208 (t208.length : Int) (wrap64 (x13_1 + 1)) s0_0 t211 t212 bt216.1 bt216.2)) = some (r1, r2, r3, r4) := H
           have A16 := Aside0.mk A160
           clear A160
           replace H := Option.bind_eq_some_iff.mp H
           obtain ⟨⟨t216, t217⟩, A170, H⟩ := H
           replace H : (spec_l1Cur_short.l0 k1 t208 (t208.length : Int) (wrap64 (x13_1 + 1)) s0_0 t211 t212 t216 t217) = some (r1, r2, r3, r4) := H
           have A17 := Aside0.mk A170
           clear A170
           have H' := Aside0.mk H
           clear H
           have p213 : 0 ≤ (x13_1 : Int) := of_decide_eq_true (by first | (with_reducible assumption) | assumption)
           have q213 : x13_1 < (t208.length : Int) := of_decide_eq_true (by first | (with_reducible assumption) | assumption)
           obtain ⟨ad213, e213, hx213_0⟩ := Kd.at_int (Kd.R_reads' HO_11.out).2.2 x13_1 p213 q213
           cases e213
           replace p213 := eq_true p213
           replace q213 := eq_true q213
           try go_wp2
           have n0_ := Aside0.mk (Kd.R_drew HO_11.out)
           have n1_ := Aside0.mk (blk_drew BK204.out)
           have n2_ := Aside0.mk (blk_drew BK207.out)
           have n3_ := Aside0.mk (IsS54.drew HI0.out)
           have n4_ := Aside0.mk (keep_drew HK.out)
           have n5_ := Aside0.mk (below_drew1 HB.out)
           clear HO_11
           clear BK204
           clear BK207
           clear HI0
           clear HK
           clear HB
           have HO_11 := n0_
           have BK204 := n1_
           have BK207 := n2_
           have HI0 := n3_
           have HK := n4_
           have HB := n5_
           clear n0_ n1_ n2_ n3_ n4_ n5_
           refine start_ (n := 5) (S := fun w' => w'.cell? ⟨gb207, 0, none⟩ = some (.string x208000_1) ∧ w'.cell? ⟨gb207, 1, none⟩ = some (.string x208001_1)) (ds := [4]) #[false, false, false, false, false] (by kernel_rfl) rfl rfl ⟨(blk_cell BK207.out 0).trans rfl, (blk_cell BK207.out 1).trans rfl⟩ (fun hHeld => ?_)
           generalize wr.drew = w18 at HO_11 BK204 BK207 HI0 HK HB hHeld ⊢
           refine pure_ (i := 1) (N := some 18) (v := ?_) (a' := ?_) #[false, true, false, false, false] rfl rfl (by kernel_rfl) (fun _ _ _ h => h) (Or.inl ⟨by rfl, ?_⟩) ?_ ?_
           rotate_left
           · intro w'
             go_simp
             with_reducible rfl
           rotate_left
           · simp only [Act.put, List.setIfInBounds_toArray, List.set_cons_zero, List.set_cons_succ, i64_w, i32_w]
             rfl
           refine take_ (i := 0) (N := some 17) (v := ?_) (a' := ?_) #[true, true, false, false, false] rfl rfl (by kernel_rfl) (fun _ _ _ h => h) (Or.inl ⟨by rfl, ?_⟩) hHeld ?_ ?_
           rotate_left
           · rintro w' ⟨s0, s1⟩
             go_simp
             with_reducible rfl
           rotate_left
           · simp only [Act.put, List.setIfInBounds_toArray, List.set_cons_zero, List.set_cons_succ, i64_w, i32_w]
             rfl
           refine one_ (i := 2) (N := some 19) #[true, true, true, false, false] rfl rfl (by kernel_rfl) (by decide) (fun K hK => ?_)
           refine goes_ Tryz.func55 (by kernel_rfl) rfl #[.int .i64 (rd t208 x13_1)] (by rfl) rfl rfl lm ?_
           with_reducible refine (spec_wdLetter.calls (rd t208 x13_1) t214 t215 _ A16.out).mono ?_
           rintro e w19 ⟨rfl, hb⟩
           refine ⟨_, rfl, ?_⟩
           have n0_ := Aside0.mk (Kd.R_below (by (with_reducible repeat (first | apply Kd.R_alloc | apply Kd.R_drewN | apply Kd.R_drew)); exact HO_11.out) hb)
           have n1_ := Aside0.mk (blk_below (lb BK204.out) hb)
           have n2_ := Aside0.mk (blk_below (lb BK207.out) hb)
           have n3_ := Aside0.mk (IsS54.below (lI54 HI0.out) hb)
           have n4_ := Aside0.mk (KeepBut.trans (lK HK.out) (KeepBut.of_below hb g none) (.inl rfl))
           have n5_ := Aside0.mk (below_step (lB HB.out) hb)
           clear HO_11
           clear BK204
           clear BK207
           clear HI0
           clear HK
           clear HB
           have HO_11 := n0_
           have BK204 := n1_
           have BK207 := n2_
           have HI0 := n3_
           have HK := n4_
           have HB := n5_
           clear n0_ n1_ n2_ n3_ n4_ n5_
           (try clear hb)
           (try clear hb2)
           (try clear hk)
           (try clear hi)
           refine hK.out _ _ ⟨(blk_cell BK207.out 0).trans rfl, (blk_cell BK207.out 1).trans rfl⟩ (fun hHeld => ?_)
           clear hK K
           refine norm_ (a' := ?_) ?_ ?_
           rotate_left
           · show Act.put _ (some 19) _ = _
             simp only [Act.put, List.setIfInBounds_toArray, List.set_cons_zero, List.set_cons_succ, i64_w, i32_w]
             rfl
           refine one_ (i := 3) (N := some 20) #[true, true, true, true, false] rfl rfl (by kernel_rfl) (by decide) (fun K hK => ?_)
           refine goes_ Tryz.func70 (by kernel_rfl) rfl #[.agg #[.string x208000_1, .string x208001_1], .agg #[.string t214, .string t215]] (by rfl) rfl rfl lm ?_
           with_reducible refine (spec_prTimes.calls x208000_1 x208001_1 t214 t215 t216 t217 _ A17.out).mono ?_
           rintro e w20 ⟨rfl, hb⟩
           refine ⟨_, rfl, ?_⟩
           have n0_ := Aside0.mk (Kd.R_below (by (with_reducible repeat (first | apply Kd.R_alloc | apply Kd.R_drewN | apply Kd.R_drew)); exact HO_11.out) hb)
           have n1_ := Aside0.mk (blk_below (lb BK204.out) hb)
           have n2_ := Aside0.mk (blk_below (lb BK207.out) hb)
           have n3_ := Aside0.mk (IsS54.below (lI54 HI0.out) hb)
           have n4_ := Aside0.mk (KeepBut.trans (lK HK.out) (KeepBut.of_below hb g none) (.inl rfl))
           have n5_ := Aside0.mk (below_step (lB HB.out) hb)
           clear HO_11
           clear BK204
           clear BK207
           clear HI0
           clear HK
           clear HB
           have HO_11 := n0_
           have BK204 := n1_
           have BK207 := n2_
           have HI0 := n3_
           have HK := n4_
           have HB := n5_
           clear n0_ n1_ n2_ n3_ n4_ n5_
           (try clear hb)
           refine hK.out _ _ ⟨(blk_cell BK207.out 0).trans rfl, (blk_cell BK207.out 1).trans rfl⟩ (fun hHeld => ?_)
           clear hK K
           refine norm_ (a' := ?_) ?_ ?_
           rotate_left
           · show Act.put _ (some 20) _ = _
             simp only [Act.put, List.setIfInBounds_toArray, List.set_cons_zero, List.set_cons_succ, i64_w, i32_w]
             rfl
           refine last_ (i := 4) (N := none) #[true, true, true, true, true] rfl rfl (by kernel_rfl) (by decide) (fun K hK => ?_)
           have hs21 : w20.cell? ⟨gb207, 0, none⟩ = some (.string x208000_1) := (blk_cell BK207.out 0).trans rfl
           have hfs21 := blk_frozen BK207.out 0
           have hns21_0 := NB204_207.out
           have hms21_0 := NB207_204.out
           have hs22 : w20.cell? ⟨gb207, 1, none⟩ = some (.string x208001_1) := (blk_cell BK207.out 1).trans rfl
           have hfs22 := blk_frozen BK207.out 1
           have hns22_0 := NB204_207.out
           have hms22_0 := NB207_204.out
           refine skip_ (w1 := ?_) (by rfl) rfl ?_ ?_
           rotate_left
           · go_simp
             rfl
           refine hK.out _ _ ?_
           clear hK K
           refine done_ (by kernel_rfl) ?_
           try go_wp2
           go_roundg k1
           case measure => have := HK1.out; omega
           case rel => exact ⟨(wrap64 (x13_1 + 1)), (t216), (t217), (by first | rfl | (simp; done) | (simp [*]; done)), H', ⟨by have := HK1.out; omega⟩, ⟨by (with_reducible repeat (first | apply Kd.R_alloc | apply Kd.R_drewN | apply Kd.R_drew)); exact Kd.R_mono (Kd.R_far (p := ⟨gb207, 1, none⟩) (Kd.R_far (p := ⟨gb207, 0, none⟩) (Kd.R_types HO_11.out BK207.out (by decide)) (fun _ hk => hk.2) (.string t216)) (fun _ hk => hk.2) (.string t217)) (fun _ hk => trivial)⟩, ⟨by (with_reducible repeat (first | refine blk_drewN ?_ _ | refine blk_drew ?_ | refine blk_alloc ?_ _)); refine blk_far ?_ NB204_207.out _; (with_reducible repeat (first | refine blk_drewN ?_ _ | refine blk_drew ?_ | refine blk_alloc ?_ _)); refine blk_far ?_ NB204_207.out _; exact lb BK204.out⟩, ⟨by (with_reducible repeat (first | refine blk_drewN ?_ _ | refine blk_drew ?_ | refine blk_alloc ?_ _)); refine blk_put (cs := #[.string t216, .string x208001_1]) ?_ 1 _ rfl; (with_reducible repeat (first | refine blk_drewN ?_ _ | refine blk_drew ?_ | refine blk_alloc ?_ _)); refine blk_put (cs := #[.string x208000_1, .string x208001_1]) ?_ 0 _ rfl; exact lb BK207.out⟩, ⟨by exact lI54 HI0.out⟩, ⟨by exact lK HK.out⟩, ⟨by exact lB HB.out⟩⟩
         · rw [if_neg c15] at H
           exact absurd H (by simp)
       · rw [if_neg c14] at H
         exact absurd H (by simp)
     · rw [if_neg c13] at H
       have c13b0 : decide (x13_1 < (t208.length : Int)) = false := decide_eq_false c13
       clear c13
       simp only [Option.some.injEq, Prod.mk.injEq] at H
       obtain ⟨rfl, rfl, rfl, rfl⟩ := H
       have hnb23 := NB207_204.out
       have hnc23 := NB204_207.out
       have hnb24 := NB207_0.out
       have hnc24 := NB0_207.out
       have hcz25_0 : wr.cell? ⟨gb207, 0, none⟩ = some (.string x208000_1) := (blk_cell BK207.out 0).trans rfl
       have hcz25_1 : wr.cell? ⟨gb207, 1, none⟩ = some (.string x208001_1) := (blk_cell BK207.out 1).trans rfl
       have hfz25_0 := blk_frozen BK207.out 0
       have hfz25_1 := blk_frozen BK207.out 1
       have hnb26 := NB204_0.out
       have hnc26 := NB0_204.out
       have hcz27_0 : wr.cell? ⟨gb204, 0, none⟩ = some (.string (⟨#[]⟩ : ByteArray)) := (blk_cell BK204.out 0).trans rfl
       have hcz27_1 : wr.cell? ⟨gb204, 1, none⟩ = some (.string (⟨#[]⟩ : ByteArray)) := (blk_cell BK204.out 1).trans rfl
       have hfz27_0 := blk_frozen BK204.out 0
       have hfz27_1 := blk_frozen BK204.out 1
       go_wp2
       refine bodyPost_ret (results_cell_row rfl _ _ gb204 25 #[.string x208000_1, .string x208001_1] (0, 0) _ rfl (by (with_reducible repeat (first | refine blk_drewN ?_ _ | refine blk_drew ?_ | refine blk_alloc ?_ _)); refine blk_put (cs := #[.string x208000_1, .string (⟨#[]⟩ : ByteArray)]) ?_ 1 _ rfl; (with_reducible repeat (first | refine blk_drewN ?_ _ | refine blk_drew ?_ | refine blk_alloc ?_ _)); refine blk_put (cs := #[.string (⟨#[]⟩ : ByteArray), .string (⟨#[]⟩ : ByteArray)]) ?_ 0 _ rfl; exact lb BK204.out) Tryz.underlying25 rfl (by kernel_rfl)) rfl ?_
       exact ⟨lx, by exact lI54 HI0.out, by exact lB HB.out, by exact lK HK.out⟩
end Go.Proofs.YtijnadjgmmednaaGreat.PA
namespace Go.Proofs.YtijnadjgmmednaaGreat.PA
open Go.RowKit Go.Proofs.YtijnadjgmmednaaGreatW.PrintWords Go.Proofs.YtijnadjgmmednaaGreatW.PrintLast Go.Proofs.YtijnadjgmmednaaGreatW.PrintMore
attribute [local go_sem] max2_int min2_int max_two min_two max_three min_three max_four min_four
def spec_DrawFindConjugator.j0 : Nat → Int → Bool → List Int → Int → Int → ByteArray → ByteArray → Option (ByteArray × ByteArray × ByteArray × ByteArray × Int)
  | 0, _, _, _, _, _, _, _ => none
  | k + 1, x7, x23, x221000, x221001, x221002, x226000, x226001 => if x23 = true then ((spec_l1Cur_short.f k x221000 x221001 x221002 3).bind fun bt236 => ((spec_cjBy.f x226000 x226001 bt236.1 bt236.2.1).bind fun bt240 => ((spec_prGood.f bt240.1 bt240.2).bind fun t243 => (if t243 = true then (some (x226000, x226001, bt240.1, bt240.2, x7)) else ((spec_l1Cur_pair.f k x221000 bt236.2.2.1 bt236.2.2.2 3).bind fun bt244 => ((spec_l1Cur_among.f x221000 bt244.2.2.1 bt244.2.2.2 (([0, 1, 2] : List Int))).bind fun bt251 => (some (x226000, x226001, bt244.1, bt244.2.1, bt251.1)))))))) else ((spec_l1Cur_pair.f k x221000 x221001 x221002 3).bind fun bt254 => ((spec_l1Cur_among.f x221000 bt254.2.2.1 bt254.2.2.2 (([0, 1, 2] : List Int))).bind fun bt261 => (some (x226000, x226001, bt254.1, bt254.2.1, bt261.1))))
def spec_DrawFindConjugator.f (k : Nat) (l0 : List Int) : Option (ByteArray × ByteArray × ByteArray × ByteArray × Int) := (spec_l1Cur_pair.f k l0 0 0 3).bind fun bt221 => ((spec_l1Cur_among.f l0 bt221.2.2.1 bt221.2.2.2 (([0, 1, 2, 3, 3, 4, 5, (-1)] : List Int))).bind fun bt229 => ((spec_prGood.f bt221.1 bt221.2.1).bind fun t232 => (if t232 = true then ((spec_l1Cur_one.f l0 bt229.2.1 bt229.2.2 4).bind fun bt233 => (spec_DrawFindConjugator.j0 k bt229.1 (!bt233.1) l0 bt233.2.1 bt233.2.2 bt221.1 bt221.2.1)) else (spec_DrawFindConjugator.j0 k bt229.1 false l0 bt229.2.1 bt229.2.2 bt221.1 bt221.2.1))))
theorem spec_DrawFindConjugator.mono_l : ∀ k, (∀ y0 y1 y2 y3 y4 y5 y6, LeO (spec_DrawFindConjugator.j0 k y0 y1 y2 y3 y4 y5 y6) (spec_DrawFindConjugator.j0 (k + 1) y0 y1 y2 y3 y4 y5 y6))
  | 0 => fun _ _ _ _ _ _ _ r h => by simp [spec_DrawFindConjugator.j0] at h
  | k + 1 => by
    have ih0 := spec_DrawFindConjugator.mono_l k
    · intro y0 y1 y2 y3 y4 y5 y6
      unfold spec_DrawFindConjugator.j0
      repeat' first
      | (with_reducible exact ih0 _ _ _ _ _ _ _)
      | (with_reducible exact spec_l1Cur_pair.mono _ _ _ _ _)
      | (with_reducible exact spec_l1Cur_short.mono _ _ _ _ _)
      | (with_reducible exact LeO.refl _)
      | (with_reducible exact LeO.none _)
      | (with_reducible refine LeO.ite ?_ ?_)
      | (with_reducible refine LeO.bind ?_ (fun _ => ?_))
      | exact ih0 _ _ _ _ _ _ _
      | exact spec_l1Cur_pair.mono _ _ _ _ _
      | exact spec_l1Cur_short.mono _ _ _ _ _
      | exact LeO.none _
      | refine LeO.ite ?_ ?_
      | refine LeO.bind ?_ (fun _ => ?_)
theorem spec_DrawFindConjugator.mono : ∀ a0 k, LeO (spec_DrawFindConjugator.f k a0) (spec_DrawFindConjugator.f (k + 1) a0) := by
  intro a0 k
  have ih0 := spec_DrawFindConjugator.mono_l k
  unfold spec_DrawFindConjugator.f
  repeat' first
      | (with_reducible exact ih0 _ _ _ _ _ _ _)
      | (with_reducible exact spec_l1Cur_pair.mono _ _ _ _ _)
      | (with_reducible exact spec_l1Cur_short.mono _ _ _ _ _)
      | (with_reducible exact LeO.refl _)
      | (with_reducible exact LeO.none _)
      | (with_reducible refine LeO.ite ?_ ?_)
      | (with_reducible refine LeO.bind ?_ (fun _ => ?_))
      | exact ih0 _ _ _ _ _ _ _
      | exact spec_l1Cur_pair.mono _ _ _ _ _
      | exact spec_l1Cur_short.mono _ _ _ _ _
      | exact LeO.none _
      | refine LeO.ite ?_ ?_
      | refine LeO.bind ?_ (fun _ => ?_)
def spec_DrawFindConjugator.T8 : Bool × List (List Nat × List Nat) := (true, [([], []), ([], []), ([1], [1]), ([], []), ([], []), ([3, 4, 2], [3, 4]), ([0, 5, 0], [0]), ([2, 6, 0, 1, 2, 6], [2]), ([5, 7, 0, 1, 2, 3, 4, 5, 6, 7], [5])])
def spec_DrawFindConjugator.B8 : List Nat := [0, 0, 2, 0, 0, 30, 63, 127, 255]
theorem spec_DrawFindConjugator.tab8 : rtab .any (opsOf Tryz.f5 8) = spec_DrawFindConjugator.T8 := by kernel_rfl
theorem spec_DrawFindConjugator.bits8 : waitsOk spec_DrawFindConjugator.T8.2 spec_DrawFindConjugator.B8 = true := by kernel_rfl
set_option maxHeartbeats 8000000 in
set_option maxRecDepth 100000 in
theorem spec_DrawFindConjugator.calls (k : Nat) (A0 : Option Addr) (c0 : Nat) (l0 : List Int) (r1 : ByteArray) (r2 : ByteArray) (r3 : ByteArray) (r4 : ByteArray) (r5 : Int) (w : World) (hr0 : Kd.C (Kd.int .u8) w A0 l0.length l0) (hc0 : l0.length ≤ c0) (h : spec_DrawFindConjugator.f k l0 = some (r1, r2, r3, r4, r5)) :
    Calls Tryz.prog 5 #[.slice A0 l0.length c0] w fun e w' => e = .returned (.tuple #[.agg #[.string r1, .string r2], .agg #[.string r3, .string r4], .int .i64 r5]) ∧ Below w.heap.size w w' := by
  have hu25 := Tryz.underlying25
  have hu54 := Tryz.underlying54
  have HR0 := Aside0.mk hr0
  have HC0 := Aside0.mk hc0
  clear hr0 hc0
  have HB := Aside0.mk (Below.refl w.heap.size w)
  have H : ((spec_l1Cur_pair.f k l0 0 0 3).bind fun bt221 => ((spec_l1Cur_among.f l0 bt221.2.2.1 bt221.2.2.2 (([0, 1, 2, 3, 3, 4, 5, (-1)] : List Int))).bind fun bt229 => ((spec_prGood.f bt221.1 bt221.2.1).bind fun t232 => (if t232 = true then ((spec_l1Cur_one.f l0 bt229.2.1 bt229.2.2 4).bind fun bt233 => (spec_DrawFindConjugator.j0 k bt229.1 (!bt233.1) l0 bt233.2.1 bt233.2.2 bt221.1 bt221.2.1)) else (spec_DrawFindConjugator.j0 k bt229.1 false l0 bt229.2.1 bt229.2.2 bt221.1 bt221.2.1))))) = some (r1, r2, r3, r4, r5) := h
  clear h
  replace H := Option.bind_eq_some_iff.mp H
  obtain ⟨⟨t221, t222, t223, t224⟩, A20, H⟩ := H
  replace H : ((spec_l1Cur_among.f l0 t223 t224 (([0, 1, 2, 3, 3, 4, 5, (-1)] : List Int))).bind fun bt229 => ((spec_prGood.f t221 t222).bind fun t232 => (if t232 = true then ((spec_l1Cur_one.f l0 bt229.2.1 bt229.2.2 4).bind fun bt233 => (spec_DrawFindConjugator.j0 k bt229.1 (!bt233.1) l0 bt233.2.1 bt233.2.2 t221 t222)) else (spec_DrawFindConjugator.j0 k bt229.1 false l0 bt229.2.1 bt229.2.2 t221 t222)))) = some (r1, r2, r3, r4, r5) := H
  have A2 := Aside0.mk A20
  clear A20
  obtain ⟨y226, hy226⟩ : ∃ y_ : List Int, y_ = (([0, 1, 2, 3, 3, 4, 5, (-1)] : List Int)) := ⟨_, rfl⟩
  replace H : ((spec_l1Cur_among.f l0 t223 t224 y226).bind fun bt229 => ((spec_prGood.f t221 t222).bind fun t232 => (if t232 = true then ((spec_l1Cur_one.f l0 bt229.2.1 bt229.2.2 4).bind fun bt233 => (spec_DrawFindConjugator.j0 k bt229.1 (!bt233.1) l0 bt233.2.1 bt233.2.2 t221 t222)) else (spec_DrawFindConjugator.j0 k bt229.1 false l0 bt229.2.1 bt229.2.2 t221 t222)))) = some (r1, r2, r3, r4, r5) := by first | (rw [hy226]; with_reducible exact H) | (have H2_ := (Option.bind_some _ _).symm.trans H; rw [hy226]; with_reducible exact H2_) | (have H2_ := (Option.bind_some _ _).symm.trans H; with_reducible exact H2_) | with_reducible exact H | (rw [hy226]; exact H) | exact H
  have Ny226 := Aside0.mk hy226
  clear hy226
  replace H := Option.bind_eq_some_iff.mp H
  obtain ⟨⟨t229, t230, t231⟩, A30, H⟩ := H
  replace H : ((spec_prGood.f t221 t222).bind fun t232 => (if t232 = true then ((spec_l1Cur_one.f l0 t230 t231 4).bind fun bt233 => (spec_DrawFindConjugator.j0 k t229 (!bt233.1) l0 bt233.2.1 bt233.2.2 t221 t222)) else (spec_DrawFindConjugator.j0 k t229 false l0 t230 t231 t221 t222))) = some (r1, r2, r3, r4, r5) := H
  have A3 := Aside0.mk A30
  clear A30
  have HC4 := Aside0.mk H
  clear H
  go_enter Tryz.func5, Tryz.ntmps5
  go_upto_region 4 with (first | ((with_reducible refine gate_dst (N := 2) rfl ?_); refine box_event ?hg (N := 2) ?hd (cs := #[.string (⟨#[]⟩ : ByteArray), .string (⟨#[]⟩ : ByteArray)]) (t := 25) ?hr ?_; (case hd => rfl); (case hg => rfl); (case hr => exact lr); intro gb218 hg w5 hbox hb; have n0_ := Aside0.mk (below_step (lB HB.out) hb); have n1_ := Aside0.mk (hbox); have n2_ := gw hg (lB HB.out); have n3_ := gw hg (lB HB.out); clear HB; have HB := n0_; have BK218 := n1_; have GW218 := n2_; have GE218 := n3_; clear n0_ n1_ n2_ n3_; clear hb hbox hg) | ((with_reducible refine gate_dst (N := 3) rfl ?_); refine box_event ?hg (N := 3) ?hd (cs := #[.string (⟨#[]⟩ : ByteArray), .string (⟨#[]⟩ : ByteArray)]) (t := 25) ?hr ?_; (case hd => rfl); (case hg => rfl); (case hr => exact lr); intro gb219 hg w6 hbox hb; have n0_ := Aside0.mk (blk_below (lb BK218.out) hb); have n1_ := Aside0.mk (below_step (lB HB.out) hb); have n2_ := Aside0.mk (hbox); have n3_ := gw hg (lB HB.out); have n4_ := gw hg (lB HB.out); have n5_ := na hg (lb BK218.out); have n6_ := nz hg (lb BK218.out); clear BK218 HB; have BK218 := n0_; have HB := n1_; have BK219 := n2_; have GW219 := n3_; have GE219 := n4_; have NB218_219 := n5_; have NB219_218 := n6_; clear n0_ n1_ n2_ n3_ n4_ n5_ n6_; clear hb hbox hg) | ((with_reducible refine gate_dst (N := 11) rfl ?_); refine box_event ?hg (N := 11) ?hd (cs := #[.slice A0 l0.length c0, .int .i64 0, .int .u64 0]) (t := 54) ?hr ?_; (case hd => rfl); (case hg => rfl); (case hr => exact lr); intro gb220 hg w7 hbox hb; have n0_ := Aside0.mk (blk_below (lb BK218.out) hb); have n1_ := Aside0.mk (blk_below (lb BK219.out) hb); have n2_ := Aside0.mk (below_step (lB HB.out) hb); have n3_ := gw hg (lB HB.out); have n4_ := gw hg (lB HB.out); have n5_ := na hg (lb BK218.out); have n6_ := nz hg (lb BK218.out); have n7_ := na hg (lb BK219.out); have n8_ := nz hg (lb BK219.out); have n9_ := Aside0.mk ((show IsS54 w w7 gb220 l0 0 0 from ⟨_, _, hbox, (by rw [hg]; exact (below_size (lB HB.out)) : w.heap.size ≤ gb220), HR0.out⟩)); clear BK218 BK219 HB; have BK218 := n0_; have BK219 := n1_; have HB := n2_; have GW220 := n3_; have GE220 := n4_; have NB218_220 := n5_; have NB220_218 := n6_; have NB219_220 := n7_; have NB220_219 := n8_; have HI220 := n9_; clear n0_ n1_ n2_ n3_ n4_ n5_ n6_ n7_ n8_ n9_; clear hb hbox hg) | ((with_reducible refine gate_callee (f := 25) rfl ?_); refine goesL_ (some 13) rfl rfl Tryz.func25 (by kernel_rfl) rfl #[.pointer (some ⟨gb220, 0, none⟩), .int .i64 3] rfl lm ?_; (with_reducible refine (spec_l1Cur_pair.calls k gb220 l0 0 0 3 t221 t222 t223 t224 w _ ?side1 ?side2 A2.out).mono ?_); (case side1 => exact lI54 HI220.out); (case side2 => exact lB HB.out); rintro e w8 ⟨rfl, hi, hb, hk⟩; refine ⟨_, rfl, ?_⟩; have n0_ := Aside0.mk (KeepBut.blk hk (g' := gb218) (o := .cells #[.string (⟨#[]⟩ : ByteArray), .string (⟨#[]⟩ : ByteArray)] 25 (0, 0)) (lb BK218.out) NB218_220.out (by simp)); have n1_ := Aside0.mk (KeepBut.blk hk (g' := gb219) (o := .cells #[.string (⟨#[]⟩ : ByteArray), .string (⟨#[]⟩ : ByteArray)] 25 (0, 0)) (lb BK219.out) NB219_220.out (by simp)); have n2_ := Aside0.mk (hb); have n3_ := Aside0.mk (hi); clear BK218 BK219 HB HI220; have BK218 := n0_; have BK219 := n1_; have HB := n2_; have HI220 := n3_; clear n0_ n1_ n2_ n3_; (try clear hb); (try clear hb2); (try clear hk); (try clear hi)) | ((with_reducible refine gate_dst (N := 6) rfl ?_); refine box_event ?hg (N := 6) ?hd (cs := #[.string (⟨#[]⟩ : ByteArray), .string (⟨#[]⟩ : ByteArray)]) (t := 25) ?hr ?_; (case hd => rfl); (case hg => rfl); (case hr => exact lr); intro gb225 hg w9 hbox hb; have n0_ := Aside0.mk (blk_below (lb BK218.out) hb); have n1_ := Aside0.mk (blk_below (lb BK219.out) hb); have n2_ := Aside0.mk (IsS54.below (lI54 HI220.out) hb); have n3_ := Aside0.mk (below_step (lB HB.out) hb); have n4_ := Aside0.mk (hbox); have n5_ := gw hg (lB HB.out); have n6_ := gw hg (lB HB.out); have n7_ := na hg (lb BK218.out); have n8_ := nz hg (lb BK218.out); have n9_ := na hg (lb BK219.out); have n10_ := nz hg (lb BK219.out); have n11_ := Aside0.mk ((by rw [hg]; exact Nat.ne_of_lt (IsS54.lt (show IsS54 w _ gb220 l0 t223 t224 from by exact lI54 HI220.out)) : gb220 ≠ gb225)); have n12_ := Aside0.mk ((by rw [hg]; exact Nat.ne_of_gt (IsS54.lt (show IsS54 w _ gb220 l0 t223 t224 from by exact lI54 HI220.out)) : gb225 ≠ gb220)); clear BK218 BK219 HI220 HB; have BK218 := n0_; have BK219 := n1_; have HI220 := n2_; have HB := n3_; have BK225 := n4_; have GW225 := n5_; have GE225 := n6_; have NB218_225 := n7_; have NB225_218 := n8_; have NB219_225 := n9_; have NB225_219 := n10_; have NB220_225 := n11_; have NB225_220 := n12_; clear n0_ n1_ n2_ n3_ n4_ n5_ n6_ n7_ n8_ n9_ n10_ n11_ n12_; clear hb hbox hg; have hnb10 := NB225_218.out; have hnc10 := NB218_225.out; have hnb11 := NB225_219.out; have hnc11 := NB219_225.out; have hnb12 := NB225_220.out; have hnc12 := NB220_225.out; have hcz13_0 : w9.cell? ⟨gb225, 0, none⟩ = some (.string (⟨#[]⟩ : ByteArray)) := (blk_cell BK225.out 0).trans rfl; have hcz13_1 : w9.cell? ⟨gb225, 1, none⟩ = some (.string (⟨#[]⟩ : ByteArray)) := (blk_cell BK225.out 1).trans rfl; have hfz13_0 := blk_frozen BK225.out 0; have hfz13_1 := blk_frozen BK225.out 1) | ((with_reducible refine gate_dst (N := 15) rfl ?_); refine Kd.R_lit (Kd.int .i64) _ 3 ?hg (N := 15) ?hd (xs := ([0, 1, 2, 3, 3, 4, 5, (-1)] : List Int)) (inner := [.int .i64 0, .int .i64 1, .int .i64 2, .int .i64 3, .int .i64 3, .int .i64 4, .int .i64 5, .int .i64 (-1)]) (ok := fun _ => True) (okp := fun _ => True) ?hr ?hp (fun _ hk => hk) trivial (Below.refl _ _) (Nat.le_refl _) (by simp) ?_; (case hd => rfl); (case hg => rfl); (case hr => exact lr); (case hp => exact (Reps.one (show Kd.M (Kd.int .i64) _ _ _ 0 [.int .i64 0] from rfl) (Reps.one (show Kd.M (Kd.int .i64) _ _ _ 1 [.int .i64 1] from rfl) (Reps.one (show Kd.M (Kd.int .i64) _ _ _ 2 [.int .i64 2] from rfl) (Reps.one (show Kd.M (Kd.int .i64) _ _ _ 3 [.int .i64 3] from rfl) (Reps.one (show Kd.M (Kd.int .i64) _ _ _ 3 [.int .i64 3] from rfl) (Reps.one (show Kd.M (Kd.int .i64) _ _ _ 4 [.int .i64 4] from rfl) (Reps.one (show Kd.M (Kd.int .i64) _ _ _ 5 [.int .i64 5] from rfl) (Reps.one (show Kd.M (Kd.int .i64) _ _ _ (-1) [.int .i64 (-1)] from rfl) (Reps.none _ _)))))))))); intro v227 w14 ho15 hb hg_ hnew_; clear hg_ hnew_; (first | rw [← Ny226.out] at ho15 | (simp only [Int.reduceToNat] at ho15; rw [← Ny226.out] at ho15)); have n0_ := Aside0.mk (Kd.R_lower ho15 (below_size (lB HB.out))); have n1_ := Aside0.mk (blk_below (g := gb218) (o := .cells #[.string (⟨#[]⟩ : ByteArray), .string (⟨#[]⟩ : ByteArray)] 25 (0, 0)) (by (with_reducible repeat (first | refine blk_drewN ?_ _ | refine blk_drew ?_ | refine blk_alloc ?_ _)); refine blk_far ?_ NB218_225.out _; (with_reducible repeat (first | refine blk_drewN ?_ _ | refine blk_drew ?_ | refine blk_alloc ?_ _)); refine blk_far ?_ NB218_225.out _; exact lb BK218.out) hb); have n2_ := Aside0.mk (blk_below (g := gb219) (o := .cells #[.string (⟨#[]⟩ : ByteArray), .string (⟨#[]⟩ : ByteArray)] 25 (0, 0)) (by (with_reducible repeat (first | refine blk_drewN ?_ _ | refine blk_drew ?_ | refine blk_alloc ?_ _)); refine blk_far ?_ NB219_225.out _; (with_reducible repeat (first | refine blk_drewN ?_ _ | refine blk_drew ?_ | refine blk_alloc ?_ _)); refine blk_far ?_ NB219_225.out _; exact lb BK219.out) hb); have n3_ := Aside0.mk (IsS54.below (show IsS54 w ((w9.setCell ⟨gb225, 0, none⟩ (.string t221)).setCell ⟨gb225, 1, none⟩ (.string t222)) gb220 l0 t223 t224 from by exact lI54 HI220.out) hb); have n4_ := Aside0.mk (blk_below (g := gb225) (o := .cells #[.string t221, .string t222] 25 (0, 0)) (by (with_reducible repeat (first | refine blk_drewN ?_ _ | refine blk_drew ?_ | refine blk_alloc ?_ _)); refine blk_put (cs := #[.string t221, .string (⟨#[]⟩ : ByteArray)]) ?_ 1 _ rfl; (with_reducible repeat (first | refine blk_drewN ?_ _ | refine blk_drew ?_ | refine blk_alloc ?_ _)); refine blk_put (cs := #[.string (⟨#[]⟩ : ByteArray), .string (⟨#[]⟩ : ByteArray)]) ?_ 0 _ rfl; exact lb BK225.out) hb); have n5_ := Aside0.mk (below_step (lB HB.out) hb); clear BK218 BK219 HI220 BK225 HB; have HO228 := n0_; have BK218 := n1_; have BK219 := n2_; have HI220 := n3_; have BK225 := n4_; have HB := n5_; clear n0_ n1_ n2_ n3_ n4_ n5_; clear hb ho15; obtain ⟨Ao16, co16, eo16⟩ := Kd.R_slice HO228.out; subst eo16) | ((with_reducible refine gate_callee (f := 26) rfl ?_); refine goesL_ (some 16) rfl rfl Tryz.func26 (by kernel_rfl) rfl #[.pointer (some ⟨gb220, 0, none⟩), .slice Ao16 y226.length co16] rfl lm ?_; (with_reducible refine (spec_l1Cur_among.calls gb220 l0 t223 t224 _ _ y226 t229 t230 t231 w _ ?side1 ?side2 ?side3 ?side4 ?side5 A3.out).mono ?_); (case side1 => exact lI54 HI220.out); (case side2 => exact lB HB.out); (case side3 => repeat (first | exact (Kd.R_reads' HO228.out).2.2 | (with_reducible refine Kd.C_alloc ?_ _) | (with_reducible refine Kd.C_drewN ?_ _) | (with_reducible refine Kd.C_drew ?_))); (case side4 => exact (Kd.R_reads' HO228.out).2.1); (case side5 => exact far_slice (IsS54.own_ne HI220.out HO228.out (by decide))); rintro e w17 ⟨rfl, hi, hb, hk⟩; refine ⟨_, rfl, ?_⟩; have n0_ := Aside0.mk (KeepBut.blk hk (g' := gb218) (o := .cells #[.string (⟨#[]⟩ : ByteArray), .string (⟨#[]⟩ : ByteArray)] 25 (0, 0)) (lb BK218.out) NB218_220.out (by simp)); have n1_ := Aside0.mk (KeepBut.blk hk (g' := gb219) (o := .cells #[.string (⟨#[]⟩ : ByteArray), .string (⟨#[]⟩ : ByteArray)] 25 (0, 0)) (lb BK219.out) NB219_220.out (by simp)); have n2_ := Aside0.mk (KeepBut.blk hk (g' := gb225) (o := .cells #[.string t221, .string t222] 25 (0, 0)) (lb BK225.out) NB225_220.out (by simp)); have n3_ := Aside0.mk (Kd.R_mono (Kd.R_keep (IsS54.apart (show IsS54 w _ gb220 l0 t223 t224 from by exact lI54 HI220.out) (by (with_reducible repeat (first | apply Kd.R_alloc | apply Kd.R_drewN | apply Kd.R_drew)); exact HO228.out) (by decide)) hk (fun _ h => h.2)) (fun _ h => h.1)); have n4_ := Aside0.mk (hb); have n5_ := Aside0.mk (hi); clear BK218 BK219 BK225 HO228 HB HI220; have BK218 := n0_; have BK219 := n1_; have BK225 := n2_; have HO228 := n3_; have HB := n4_; have HI220 := n5_; clear n0_ n1_ n2_ n3_ n4_ n5_; (try clear hb); (try clear hb2); (try clear hk); (try clear hi)))
  (try simp only [Act.put, List.setIfInBounds_toArray, List.set_cons_zero, List.set_cons_succ])
  go_cut [23] (fun v23 wc => ∃ (kq : Nat) (x23_3 : Bool) (x221001_3 : Int) (x221002_3 : Int), v23 = .bool x23_3 ∧ Aside0 (spec_DrawFindConjugator.j0 kq t229 x23_3 l0 x221001_3 x221002_3 t221 t222 = some (r1, r2, r3, r4, r5)) ∧ Aside0 (kq ≤ k) ∧ Aside0 (wc.heap[gb218]? = some (.cells #[.string (⟨#[]⟩ : ByteArray), .string (⟨#[]⟩ : ByteArray)] 25 (0, 0))) ∧ Aside0 (wc.heap[gb219]? = some (.cells #[.string (⟨#[]⟩ : ByteArray), .string (⟨#[]⟩ : ByteArray)] 25 (0, 0))) ∧ Aside0 (wc.heap[gb225]? = some (.cells #[.string t221, .string t222] 25 (0, 0))) ∧ Aside0 (IsS54 w wc gb220 l0 x221001_3 x221002_3) ∧ Aside0 (Below w.heap.size w wc))
  case first =>
   have H := HC4.out
   clear HC4
   replace H := Option.bind_eq_some_iff.mp H
   obtain ⟨t232, A180, H⟩ := H
   replace H : (if t232 = true then ((spec_l1Cur_one.f l0 t230 t231 4).bind fun bt233 => (spec_DrawFindConjugator.j0 k t229 (!bt233.1) l0 bt233.2.1 bt233.2.2 t221 t222)) else (spec_DrawFindConjugator.j0 k t229 false l0 t230 t231 t221 t222)) = some (r1, r2, r3, r4, r5) := H
   have A18 := Aside0.mk A180
   clear A180
   by_cases c19 : t232 = true
   rotate_left
   · replace c19 := Bool.eq_false_iff.mpr c19
     subst c19
     rw [if_neg (show ¬ (false = true) by decide)] at H
     have H' := Aside0.mk H
     clear H
     have hnb27 := NB225_218.out
     have hnc27 := NB218_225.out
     have hnb28 := NB225_219.out
     have hnc28 := NB219_225.out
     have hnb29 := NB225_220.out
     have hnc29 := NB220_225.out
     have hcz30_0 : w17.cell? ⟨gb225, 0, none⟩ = some (.string t221) := (blk_cell BK225.out 0).trans rfl
     have hcz30_1 : w17.cell? ⟨gb225, 1, none⟩ = some (.string t222) := (blk_cell BK225.out 1).trans rfl
     have hfz30_0 := blk_frozen BK225.out 0
     have hfz30_1 := blk_frozen BK225.out 1
     go_wp2_with (first | ((with_reducible refine gate_callee (f := 27) rfl ?_); refine goesL_ (some 18) rfl rfl Tryz.func27 (by kernel_rfl) rfl #[.agg #[.string t221, .string t222]] rfl lm ?_; (with_reducible refine (spec_prGood.calls t221 t222 false _ A18.out).mono ?_); rintro e w31 ⟨rfl, hb⟩; refine ⟨_, rfl, ?_⟩; have n0_ := Aside0.mk (Kd.R_below (by (with_reducible repeat (first | apply Kd.R_alloc | apply Kd.R_drewN | apply Kd.R_drew)); exact HO228.out) hb); have n1_ := Aside0.mk (blk_below (lb BK218.out) hb); have n2_ := Aside0.mk (blk_below (lb BK219.out) hb); have n3_ := Aside0.mk (IsS54.below (lI54 HI220.out) hb); have n4_ := Aside0.mk (blk_below (lb BK225.out) hb); have n5_ := Aside0.mk (below_step (lB HB.out) hb); clear HO228 BK218 BK219 HI220 BK225 HB; have HO228 := n0_; have BK218 := n1_; have BK219 := n2_; have HI220 := n3_; have BK225 := n4_; have HB := n5_; clear n0_ n1_ n2_ n3_ n4_ n5_; (try clear hb); (try clear hb2); (try clear hk); (try clear hi)))
     go_meet
     case rel => exact ⟨_, (false), (t230), (t231), (by first | rfl | (simp; done) | (simp [*]; done)), H', ⟨by first | omega | exact Nat.le_refl _⟩, ⟨lb BK218.out⟩, ⟨lb BK219.out⟩, ⟨lb BK225.out⟩, ⟨by exact lI54 HI220.out⟩, ⟨by exact lB HB.out⟩⟩
   subst c19
   rw [if_pos rfl] at H
   replace H := Option.bind_eq_some_iff.mp H
   obtain ⟨⟨t233, t234, t235⟩, A200, H⟩ := H
   replace H : (spec_DrawFindConjugator.j0 k t229 (!t233) l0 t234 t235 t221 t222) = some (r1, r2, r3, r4, r5) := H
   have A20 := Aside0.mk A200
   clear A200
   have H' := Aside0.mk H
   clear H
   have hnb21 := NB225_218.out
   have hnc21 := NB218_225.out
   have hnb22 := NB225_219.out
   have hnc22 := NB219_225.out
   have hnb23 := NB225_220.out
   have hnc23 := NB220_225.out
   have hcz24_0 : w17.cell? ⟨gb225, 0, none⟩ = some (.string t221) := (blk_cell BK225.out 0).trans rfl
   have hcz24_1 : w17.cell? ⟨gb225, 1, none⟩ = some (.string t222) := (blk_cell BK225.out 1).trans rfl
   have hfz24_0 := blk_frozen BK225.out 0
   have hfz24_1 := blk_frozen BK225.out 1
   go_wp2_with (first | ((with_reducible refine gate_callee (f := 27) rfl ?_); refine goesL_ (some 18) rfl rfl Tryz.func27 (by kernel_rfl) rfl #[.agg #[.string t221, .string t222]] rfl lm ?_; (with_reducible refine (spec_prGood.calls t221 t222 true _ A18.out).mono ?_); rintro e w25 ⟨rfl, hb⟩; refine ⟨_, rfl, ?_⟩; have n0_ := Aside0.mk (Kd.R_below (by (with_reducible repeat (first | apply Kd.R_alloc | apply Kd.R_drewN | apply Kd.R_drew)); exact HO228.out) hb); have n1_ := Aside0.mk (blk_below (lb BK218.out) hb); have n2_ := Aside0.mk (blk_below (lb BK219.out) hb); have n3_ := Aside0.mk (IsS54.below (lI54 HI220.out) hb); have n4_ := Aside0.mk (blk_below (lb BK225.out) hb); have n5_ := Aside0.mk (below_step (lB HB.out) hb); clear HO228 BK218 BK219 HI220 BK225 HB; have HO228 := n0_; have BK218 := n1_; have BK219 := n2_; have HI220 := n3_; have BK225 := n4_; have HB := n5_; clear n0_ n1_ n2_ n3_ n4_ n5_; (try clear hb); (try clear hb2); (try clear hk); (try clear hi)) | (go_at_call 28; (with_reducible refine (spec_l1Cur_one.calls gb220 l0 t230 t231 4 t233 t234 t235 w _ ?side1 ?side2 A20.out).mono ?_); (case side1 => exact lI54 HI220.out); (case side2 => exact lB HB.out); rintro e w26 ⟨rfl, hi, hb, hk⟩; have n0_ := Aside0.mk (KeepBut.blk hk (g' := gb218) (o := .cells #[.string (⟨#[]⟩ : ByteArray), .string (⟨#[]⟩ : ByteArray)] 25 (0, 0)) (lb BK218.out) NB218_220.out (by simp)); have n1_ := Aside0.mk (KeepBut.blk hk (g' := gb219) (o := .cells #[.string (⟨#[]⟩ : ByteArray), .string (⟨#[]⟩ : ByteArray)] 25 (0, 0)) (lb BK219.out) NB219_220.out (by simp)); have n2_ := Aside0.mk (KeepBut.blk hk (g' := gb225) (o := .cells #[.string t221, .string t222] 25 (0, 0)) (lb BK225.out) NB225_220.out (by simp)); have n3_ := Aside0.mk (Kd.R_mono (Kd.R_keep (IsS54.apart (show IsS54 w _ gb220 l0 t230 t231 from by exact lI54 HI220.out) (by (with_reducible repeat (first | apply Kd.R_alloc | apply Kd.R_drewN | apply Kd.R_drew)); exact HO228.out) (by decide)) hk (fun _ h => h.2)) (fun _ h => h.1)); have n4_ := Aside0.mk (hb); have n5_ := Aside0.mk (hi); clear BK218 BK219 BK225 HO228 HB HI220; have BK218 := n0_; have BK219 := n1_; have BK225 := n2_; have HO228 := n3_; have HB := n4_; have HI220 := n5_; clear n0_ n1_ n2_ n3_ n4_ n5_; (try clear hb); (try clear hb2); (try clear hk); (try clear hi)))
   go_meet
   case rel => exact ⟨_, (!t233), (t234), (t235), (by first | rfl | (simp; done) | (simp [*]; done)), H', ⟨by first | omega | exact Nat.le_refl _⟩, ⟨lb BK218.out⟩, ⟨lb BK219.out⟩, ⟨lb BK225.out⟩, ⟨by exact lI54 HI220.out⟩, ⟨by exact lB HB.out⟩⟩
  case rest =>
  clear HC4
  (try clear hcz13_0); (try clear hcz13_1); (try clear hfz13_0); (try clear hfz13_1)
  obtain ⟨kq, x23_3, x221001_3, x221002_3, rfl, HA, HJ3, BK218, BK219, BK225, HI220, HB⟩ := hcut
  cases kq with
  | zero => exact absurd HA.out (by simp [spec_DrawFindConjugator.j0])
  | succ kj3 =>
   have H := HA.out
   clear HA
   simp only [spec_DrawFindConjugator.j0] at H
   by_cases c32 : x23_3 = true
   rotate_left
   · replace c32 := Bool.eq_false_iff.mpr c32
     subst c32
     rw [if_neg (show ¬ (false = true) by decide)] at H
     replace H := Option.bind_eq_some_iff.mp H
     obtain ⟨⟨t254, t255, t256, t257⟩, A810, H⟩ := H
     replace H : ((spec_l1Cur_among.f l0 t256 t257 (([0, 1, 2] : List Int))).bind fun bt261 => (some (t221, t222, t254, t255, bt261.1))) = some (r1, r2, r3, r4, r5) := H
     have A81 := Aside0.mk A810
     clear A810
     obtain ⟨y258, hy258⟩ : ∃ y_ : List Int, y_ = (([0, 1, 2] : List Int)) := ⟨_, rfl⟩
     replace H : ((spec_l1Cur_among.f l0 t256 t257 y258).bind fun bt261 => (some (t221, t222, t254, t255, bt261.1))) = some (r1, r2, r3, r4, r5) := by first | (rw [hy258]; with_reducible exact H) | (have H2_ := (Option.bind_some _ _).symm.trans H; rw [hy258]; with_reducible exact H2_) | (have H2_ := (Option.bind_some _ _).symm.trans H; with_reducible exact H2_) | with_reducible exact H | (rw [hy258]; exact H) | exact H
     have Ny258 := Aside0.mk hy258
     clear hy258
     replace H := Option.bind_eq_some_iff.mp H
     obtain ⟨⟨t261, t262, t263⟩, A820, H⟩ := H
     replace H : (some (t221, t222, t254, t255, t261)) = some (r1, r2, r3, r4, r5) := H
     have A82 := Aside0.mk A820
     clear A820
     simp only [Option.some.injEq, Prod.mk.injEq] at H
     obtain ⟨rfl, rfl, rfl, rfl, rfl⟩ := H
     try go_wp2
     have n0_ := Aside0.mk (blk_drew BK218.out)
     have n1_ := Aside0.mk (blk_drew BK219.out)
     have n2_ := Aside0.mk (blk_drew BK225.out)
     have n3_ := Aside0.mk (IsS54.drew HI220.out)
     have n4_ := Aside0.mk (below_drew1 HB.out)
     clear BK218
     clear BK219
     clear BK225
     clear HI220
     clear HB
     have BK218 := n0_
     have BK219 := n1_
     have BK225 := n2_
     have HI220 := n3_
     have HB := n4_
     clear n0_ n1_ n2_ n3_ n4_
     refine start_ (n := 9) (S := fun w' => True) (ds := []) #[false, false, false, false, false, false, false, false, false] (by kernel_rfl) rfl rfl trivial (fun hHeld => ?_); refine with_tabW spec_DrawFindConjugator.tab8 spec_DrawFindConjugator.bits8 (fun HT_ HW_ => ?_)
     generalize wc.drew = w83 at BK218 BK219 BK225 HI220 HB hHeld ⊢
     refine pure_ (i := 1) (N := some 34) (v := ?_) (a' := ?_) #[false, true, false, false, false, false, false, false, false] rfl rfl (any_of HT_.out (by kernel_rfl)) (fun _ _ _ h => h) (Or.inl ⟨by rfl, ?_⟩) ?_ ?_
     rotate_left
     · intro w'
       go_simp
       with_reducible rfl
     rotate_left
     · simp only [Act.put, List.setIfInBounds_toArray, List.set_cons_zero, List.set_cons_succ, i64_w, i32_w]
       rfl
     refine pure_ (i := 3) (N := some 36) (v := ?_) (a' := ?_) #[false, true, false, true, false, false, false, false, false] rfl rfl (any_of HT_.out (by kernel_rfl)) (fun _ _ _ h => h) (Or.inl ⟨by rfl, ?_⟩) ?_ ?_
     rotate_left
     · intro w'
       go_simp
       with_reducible rfl
     rotate_left
     · simp only [Act.put, List.setIfInBounds_toArray, List.set_cons_zero, List.set_cons_succ, i64_w, i32_w]
       rfl
     refine inv_at [0, 2, 4, 5, 6, 7, 8] (fun a0_ b a w' => ∃ (v259 : Value), a = putSel a0_ b [(0, 33, .agg #[.string t221, .string t222]), (2, 35, .agg #[.string t254, .string t255]), (4, 37, v259), (5, 38, .int .i64 t261), (8, 4, .int .i64 t261)] ∧ (b 6 = false → w'.heap[gb218]? = some (.cells #[.string (⟨#[]⟩ : ByteArray), .string (⟨#[]⟩ : ByteArray)] 25 (0, 0))) ∧ (b 7 = false → w'.heap[gb219]? = some (.cells #[.string (⟨#[]⟩ : ByteArray), .string (⟨#[]⟩ : ByteArray)] 25 (0, 0))) ∧ (w'.heap[gb225]? = some (.cells #[.string t221, .string t222] 25 (0, 0))) ∧ (b 2 = false → IsS54 w w' gb220 l0 x221001_3 x221002_3) ∧ (Below w.heap.size w w') ∧ (b 2 = true → b 5 = false → IsS54 w w' gb220 l0 t256 t257) ∧ (b 4 = true → Kd.R (Kd.int .i64) 3 w' w.heap.size (fun _ => True) v259 y258) ∧ (b 5 = true → IsS54 w w' gb220 l0 t262 t263) ∧ (b 6 = true → w'.heap[gb218]? = some (.cells #[.string t221, .string t222] 25 (0, 0))) ∧ (b 7 = true → w'.heap[gb219]? = some (.cells #[.string t254, .string t255] 25 (0, 0)))) HT_.out HW_.out (by kernel_rfl) (by kernel_rfl) ?_ ?_ ?_
     · exact ⟨.bool false, by simp only [putSel, Bool.false_eq_true, if_false], fun _ => BK218.out, fun _ => BK219.out, BK225.out, fun _ => HI220.out, HB.out, fun h_ => absurd h_ (by decide), fun h_ => absurd h_ (by decide), fun h_ => absurd h_ (by decide), fun h_ => absurd h_ (by decide), fun h_ => absurd h_ (by decide)⟩
     · skip
       clear BK218 BK219 BK225 HB HI220
       refine steps_cons ?_ ?_
       · rintro b a w' ⟨v259, ha, Q_BK218, Q_BK219, Q_BK225, Q_HI220, Q_HB, Q_HI220_e2, Q_HO260, Q_HI220_e5, Q_BK218_e6, Q_BK219_e7⟩ hb_ hon hoff
         refine ⟨_, rfl, fun K hK => ?_⟩
         have e6 : a.tmps[6]? = some (.pointer (some ⟨gb225, 0, none⟩)) := by rw [ha]; exact (putSel_off rfl).trans rfl
         replace ha := Aside0.mk ha
         have BK218 := Aside0.mk (Q_BK218 (hoff 6 (by kernel_rfl)))
         have BK219 := Aside0.mk (Q_BK219 (hoff 7 (by kernel_rfl)))
         have BK225 := Aside0.mk Q_BK225
         have HB := Aside0.mk Q_HB
         have hc0_ : w'.cell? ⟨gb225, 0, none⟩ = some (.string t221) := (blk_cell BK225.out 0).trans rfl
         have hc1_ : w'.cell? ⟨gb225, 1, none⟩ = some (.string t222) := (blk_cell BK225.out 1).trans rfl
         refine value_ (w1 := w') (v := .agg #[.string t221, .string t222]) (by rfl) rfl ?_ ?_
         · go_simp
           (try simp only [i64_w])
           try rfl
         refine hK.out _ _ ⟨v259, (by rw [ha.out]; exact putSel_upk 0 hb_ rfl rfl rfl), Q_BK218, Q_BK219, Q_BK225, Q_HI220, Q_HB, Q_HI220_e2, Q_HO260, Q_HI220_e5, fun h0_ => absurd ((hoff 6 (by kernel_rfl)).symm.trans h0_) (by decide), fun h0_ => absurd ((hoff 7 (by kernel_rfl)).symm.trans h0_) (by decide)⟩
       refine steps_cons ?_ ?_
       · rintro b a w' ⟨v259, ha, Q_BK218, Q_BK219, Q_BK225, Q_HI220, Q_HB, Q_HI220_e2, Q_HO260, Q_HI220_e5, Q_BK218_e6, Q_BK219_e7⟩ hb_ hon hoff
         refine ⟨_, rfl, fun K hK => ?_⟩
         have e34 : a.tmps[34]? = some (.pointer (some ⟨gb220, 0, none⟩)) := by rw [ha]; exact (putSel_off rfl).trans rfl
         replace ha := Aside0.mk ha
         have BK218 := Aside0.mk (Q_BK218 (hoff 6 (by kernel_rfl)))
         have BK219 := Aside0.mk (Q_BK219 (hoff 7 (by kernel_rfl)))
         have BK225 := Aside0.mk Q_BK225
         have HI220 := Aside0.mk (Q_HI220 hb_)
         have HB := Aside0.mk Q_HB
         refine goes_ Tryz.func25 (by kernel_rfl) rfl #[.pointer (some ⟨gb220, 0, none⟩), .int .i64 3] (by rfl) rfl rfl (by first | (simp only [List.map_toArray, List.map_cons, List.map_nil, Act.eval, Array.getD_eq_getD_getElem?, Option.getD_some, e34]; done) | (simp only [List.map_toArray, List.map_cons, List.map_nil, Act.eval, Array.getD_eq_getD_getElem?, Option.getD_some, e34]; rfl)) ?_
         with_reducible refine (spec_l1Cur_pair.calls kj3 gb220 l0 x221001_3 x221002_3 3 t254 t255 t256 t257 w _ ?side1 ?side2 A81.out).mono ?_
         (case side1 => exact lI54 HI220.out)
         (case side2 => exact lB HB.out)
         rintro e w84 ⟨rfl, hi, hb, hk⟩
         refine ⟨_, rfl, ?_⟩
         have n0_ := Aside0.mk (KeepBut.blk hk (g' := gb218) (o := .cells #[.string (⟨#[]⟩ : ByteArray), .string (⟨#[]⟩ : ByteArray)] 25 (0, 0)) (lb BK218.out) NB218_220.out (by simp))
         have n1_ := Aside0.mk (KeepBut.blk hk (g' := gb219) (o := .cells #[.string (⟨#[]⟩ : ByteArray), .string (⟨#[]⟩ : ByteArray)] 25 (0, 0)) (lb BK219.out) NB219_220.out (by simp))
         have n2_ := Aside0.mk (KeepBut.blk hk (g' := gb225) (o := .cells #[.string t221, .string t222] 25 (0, 0)) (lb BK225.out) NB225_220.out (by simp))
         have n3_ := Aside0.mk (hb)
         have n4_ := Aside0.mk (hi)
         have z_HO260 := fun (h0_ : b 4 = true) => (show Kd.R (Kd.int .i64) 3 w84 w.heap.size (fun _ => True) v259 y258 from by first | exact (Kd.R_mono (Kd.R_keep (IsS54.apart (show IsS54 w _ gb220 l0 x221001_3 x221002_3 from by exact lI54 HI220.out) (by (with_reducible repeat (first | apply Kd.R_alloc | apply Kd.R_drewN | apply Kd.R_drew)); exact (Q_HO260 h0_)) (by decide)) hk (fun _ h => h.2)) (fun _ h => h.1)) | exact Kd.R_mono (Kd.R_mono (Kd.R_keep (IsS54.apart (show IsS54 w _ gb220 l0 x221001_3 x221002_3 from by exact lI54 HI220.out) (by (with_reducible repeat (first | apply Kd.R_alloc | apply Kd.R_drewN | apply Kd.R_drew)); exact (Q_HO260 h0_)) (by decide)) hk (fun _ h => h.2)) (fun _ h => h.1)) (fun _ h_ => by first | trivial | exact h_ | exact h_.1))
         clear BK218
         clear BK219
         clear BK225
         clear HB
         clear HI220
         have BK218 := n0_
         have BK219 := n1_
         have BK225 := n2_
         have HB := n3_
         have HI220 := n4_
         clear n0_ n1_ n2_ n3_ n4_
         (try clear hb); (try clear hb2); (try clear hk); (try clear hi)
         refine hK.out _ _ ⟨v259, (by rw [ha.out]; exact putSel_upk 1 hb_ rfl rfl rfl), fun _ => (lb BK218.out), fun _ => (lb BK219.out), (lb BK225.out), fun h0_ => absurd ((up_self b 2).symm.trans h0_) (by decide), (lB HB.out), fun _ _ => (lI54 HI220.out), z_HO260, fun h0_ => absurd ((hoff 5 (by kernel_rfl)).symm.trans h0_) (by decide), fun h0_ => absurd ((hoff 6 (by kernel_rfl)).symm.trans h0_) (by decide), fun h0_ => absurd ((hoff 7 (by kernel_rfl)).symm.trans h0_) (by decide)⟩
       refine steps_cons ?_ ?_
       · rintro b a w' ⟨v259, ha, Q_BK218, Q_BK219, Q_BK225, Q_HI220, Q_HB, Q_HI220_e2, Q_HO260, Q_HI220_e5, Q_BK218_e6, Q_BK219_e7⟩ hb_ hon hoff
         refine ⟨_, rfl, fun K hK => ?_⟩
         replace ha := Aside0.mk ha
         have BK218 := Aside0.mk (Q_BK218 (hoff 6 (by kernel_rfl)))
         have BK219 := Aside0.mk (Q_BK219 (hoff 7 (by kernel_rfl)))
         have BK225 := Aside0.mk Q_BK225
         have HB := Aside0.mk Q_HB
         refine Kd.R_lit_step (Kd.int .i64) _ 3 ?hg (N := 37) ?hd (xs := ([0, 1, 2] : List Int)) (inner := [.int .i64 0, .int .i64 1, .int .i64 2]) (ok := fun _ => True) (okp := fun _ => True) ?hr ?hp (fun _ hk => hk) trivial (Below.refl _ _) (Nat.le_refl _) (by simp) ?_; (case hd => rfl); (case hg => rfl); (case hr => exact lr); (case hp => exact (Reps.one (show Kd.M (Kd.int .i64) _ _ _ 0 [.int .i64 0] from rfl) (Reps.one (show Kd.M (Kd.int .i64) _ _ _ 1 [.int .i64 1] from rfl) (Reps.one (show Kd.M (Kd.int .i64) _ _ _ 2 [.int .i64 2] from rfl) (Reps.none _ _)))))
         intro v259 w84 ho85 hb hg_ hnew_
         clear hg_ hnew_
         (first | rw [← Ny258.out] at ho85 | (simp only [Int.reduceToNat] at ho85; rw [← Ny258.out] at ho85))
         have n0_ := Aside0.mk (Kd.R_lower ho85 (below_size (lB HB.out)))
         have n1_ := Aside0.mk (blk_below (lb BK218.out) hb)
         have n2_ := Aside0.mk (blk_below (lb BK219.out) hb)
         have n3_ := Aside0.mk (blk_below (lb BK225.out) hb)
         have n5_ := Aside0.mk (below_step (lB HB.out) hb)
         have z_HI220 := fun (h0_ : b 2 = false) => (show IsS54 w w84 gb220 l0 x221001_3 x221002_3 from by first | exact (IsS54.below (by repeat (first | (with_reducible first | exact (Q_HI220 h0_) | apply IsS54.alloc | apply IsS54.drewN | apply IsS54.drew | apply IsS54.set_1 | apply IsS54.set_2 | refine IsS54.far ?_ NB220_218.out _ | refine IsS54.far ?_ NB220_219.out _ | refine IsS54.far ?_ NB220_225.out _) | exact (Q_HI220 h0_))) hb))
         have z_HI220_e2 := fun (h0_ : b 2 = true) (h1_ : b 5 = false) => (show IsS54 w w84 gb220 l0 t256 t257 from by first | exact (IsS54.below (by repeat (first | (with_reducible first | exact (Q_HI220_e2 h0_ h1_) | apply IsS54.alloc | apply IsS54.drewN | apply IsS54.drew | apply IsS54.set_1 | apply IsS54.set_2 | refine IsS54.far ?_ NB220_218.out _ | refine IsS54.far ?_ NB220_219.out _ | refine IsS54.far ?_ NB220_225.out _) | exact (Q_HI220_e2 h0_ h1_))) hb))
         clear BK218
         clear BK219
         clear BK225
         clear HB
         have HO260 := n0_
         have BK218 := n1_
         have BK219 := n2_
         have BK225 := n3_
         have HB := n5_
         clear n0_ n1_ n2_ n3_ n5_
         clear hb ho85
         refine hK.out _ _ ⟨v259, (by rw [ha.out]; exact putSel_upk 2 hb_ rfl rfl rfl), fun _ => (lb BK218.out), fun _ => (lb BK219.out), (lb BK225.out), z_HI220, (lB HB.out), z_HI220_e2, fun _ => (by (with_reducible repeat (first | apply Kd.R_alloc | apply Kd.R_drewN | apply Kd.R_drew)); exact HO260.out), fun h0_ => absurd ((hoff 5 (by kernel_rfl)).symm.trans h0_) (by decide), fun h0_ => absurd ((hoff 6 (by kernel_rfl)).symm.trans h0_) (by decide), fun h0_ => absurd ((hoff 7 (by kernel_rfl)).symm.trans h0_) (by decide)⟩
       refine steps_cons ?_ ?_
       · rintro b a w' ⟨v259, ha, Q_BK218, Q_BK219, Q_BK225, Q_HI220, Q_HB, Q_HI220_e2, Q_HO260, Q_HI220_e5, Q_BK218_e6, Q_BK219_e7⟩ hb_ hon hoff
         refine ⟨_, rfl, fun K hK => ?_⟩
         have e36 : a.tmps[36]? = some (.pointer (some ⟨gb220, 0, none⟩)) := by rw [ha]; exact (putSel_off rfl).trans rfl
         have e37 : a.tmps[37]? = some (v259) := by rw [ha]; exact putSel_on (e := (4, 37, v259)) 2 rfl rfl (hon 4 (by kernel_rfl)) rfl
         replace ha := Aside0.mk ha
         have BK218 := Aside0.mk (Q_BK218 (hoff 6 (by kernel_rfl)))
         have BK219 := Aside0.mk (Q_BK219 (hoff 7 (by kernel_rfl)))
         have BK225 := Aside0.mk Q_BK225
         have HB := Aside0.mk Q_HB
         have HI220 := Aside0.mk (Q_HI220_e2 (hon 2 (by kernel_rfl)) hb_)
         have HO260 := Aside0.mk (Q_HO260 (hon 4 (by kernel_rfl)))
         obtain ⟨Ao88, co88, eo88⟩ := Kd.R_slice HO260.out
         (first | subst eo88 | (injection eo88 with f1_ f2_ f3_; have f4_ := f1_.symm; have f5_ := f3_.symm; clear f1_ f2_ f3_; subst f4_; subst f5_))
         refine goes_ Tryz.func26 (by kernel_rfl) rfl #[.pointer (some ⟨gb220, 0, none⟩), .slice Ao88 y258.length co88] (by rfl) rfl rfl (by first | (simp only [List.map_toArray, List.map_cons, List.map_nil, Act.eval, Array.getD_eq_getD_getElem?, Option.getD_some, e36, e37]; done) | (simp only [List.map_toArray, List.map_cons, List.map_nil, Act.eval, Array.getD_eq_getD_getElem?, Option.getD_some, e36, e37]; rfl)) ?_
         with_reducible refine (spec_l1Cur_among.calls gb220 l0 t256 t257 _ _ y258 t261 t262 t263 w _ ?side1 ?side2 ?side3 ?side4 ?side5 A82.out).mono ?_
         (case side1 => exact lI54 HI220.out)
         (case side2 => exact lB HB.out)
         (case side3 => repeat (first | exact (Kd.R_reads' HO260.out).2.2 | (with_reducible refine Kd.C_alloc ?_ _) | (with_reducible refine Kd.C_drewN ?_ _) | (with_reducible refine Kd.C_drew ?_)))
         (case side4 => exact (Kd.R_reads' HO260.out).2.1)
         (case side5 => exact far_slice (IsS54.own_ne HI220.out HO260.out (by decide)))
         rintro e w89 ⟨rfl, hi, hb, hk⟩
         refine ⟨_, rfl, ?_⟩
         have n0_ := Aside0.mk (KeepBut.blk hk (g' := gb218) (o := .cells #[.string (⟨#[]⟩ : ByteArray), .string (⟨#[]⟩ : ByteArray)] 25 (0, 0)) (lb BK218.out) NB218_220.out (by simp))
         have n1_ := Aside0.mk (KeepBut.blk hk (g' := gb219) (o := .cells #[.string (⟨#[]⟩ : ByteArray), .string (⟨#[]⟩ : ByteArray)] 25 (0, 0)) (lb BK219.out) NB219_220.out (by simp))
         have n2_ := Aside0.mk (KeepBut.blk hk (g' := gb225) (o := .cells #[.string t221, .string t222] 25 (0, 0)) (lb BK225.out) NB225_220.out (by simp))
         have n3_ := Aside0.mk (Kd.R_mono (Kd.R_keep (IsS54.apart (show IsS54 w _ gb220 l0 t256 t257 from by exact lI54 HI220.out) (by (with_reducible repeat (first | apply Kd.R_alloc | apply Kd.R_drewN | apply Kd.R_drew)); exact HO260.out) (by decide)) hk (fun _ h => h.2)) (fun _ h => h.1))
         have n4_ := Aside0.mk (hb)
         have n5_ := Aside0.mk (hi)
         clear BK218
         clear BK219
         clear BK225
         clear HO260
         clear HB
         clear HI220
         have BK218 := n0_
         have BK219 := n1_
         have BK225 := n2_
         have HO260 := n3_
         have HB := n4_
         have HI220 := n5_
         clear n0_ n1_ n2_ n3_ n4_ n5_
         (try clear hb); (try clear hk); (try clear hi)
         refine hK.out _ _ ⟨.slice Ao88 y258.length co88, (by rw [ha.out]; exact putSel_upk 3 hb_ rfl rfl rfl), fun _ => (lb BK218.out), fun _ => (lb BK219.out), (lb BK225.out), fun h0_ => absurd ((hon 2 (by kernel_rfl)).symm.trans h0_) (by decide), (lB HB.out), fun _ h1_ => absurd ((up_self b 5).symm.trans h1_) (by decide), fun _ => (by (with_reducible repeat (first | apply Kd.R_alloc | apply Kd.R_drewN | apply Kd.R_drew)); exact HO260.out), fun _ => (lI54 HI220.out), fun h0_ => absurd ((hoff 6 (by kernel_rfl)).symm.trans h0_) (by decide), fun h0_ => absurd ((hoff 7 (by kernel_rfl)).symm.trans h0_) (by decide)⟩
       refine steps_cons ?_ ?_
       · rintro b a w' ⟨v259, ha, Q_BK218, Q_BK219, Q_BK225, Q_HI220, Q_HB, Q_HI220_e2, Q_HO260, Q_HI220_e5, Q_BK218_e6, Q_BK219_e7⟩ hb_ hon hoff
         refine ⟨_, rfl, fun K hK => ?_⟩
         have e2 : a.tmps[2]? = some (.pointer (some ⟨gb218, 0, none⟩)) := by rw [ha]; exact (putSel_off rfl).trans rfl
         have e33 : a.tmps[33]? = some (.agg #[.string t221, .string t222]) := by rw [ha]; exact putSel_on (e := (0, 33, .agg #[.string t221, .string t222])) 0 rfl rfl (hon 0 (by kernel_rfl)) rfl
         replace ha := Aside0.mk ha
         have BK218 := Aside0.mk (Q_BK218 hb_)
         have BK219 := Aside0.mk (Q_BK219 (hoff 7 (by kernel_rfl)))
         have BK225 := Aside0.mk Q_BK225
         have HB := Aside0.mk Q_HB
         have HO260 := Aside0.mk (Q_HO260 (hon 4 (by kernel_rfl)))
         have HI220 := Aside0.mk (Q_HI220_e5 (hon 5 (by kernel_rfl)))
         have hs90 : w'.cell? ⟨gb218, 0, none⟩ = some (.string (⟨#[]⟩ : ByteArray)) := (blk_cell BK218.out 0).trans rfl
         have hfs90 := blk_frozen BK218.out 0
         have hns90_1 := NB219_218.out
         have hns90_2 := NB225_218.out
         have hms90_1 := NB218_219.out
         have hms90_2 := NB218_225.out
         have hs91 : w'.cell? ⟨gb218, 1, none⟩ = some (.string (⟨#[]⟩ : ByteArray)) := (blk_cell BK218.out 1).trans rfl
         have hfs91 := blk_frozen BK218.out 1
         have hns91_1 := NB219_218.out
         have hns91_2 := NB225_218.out
         have hms91_1 := NB218_219.out
         have hms91_2 := NB218_225.out
         refine skip_ (w1 := ?_) (by rfl) rfl ?_ ?_
         rotate_left
         · go_simp
           rfl
         refine hK.out _ _ ⟨v259, (by rw [ha.out]; exact putSel_none (v := undef) rfl), fun h0_ => absurd ((up_self b 6).symm.trans h0_) (by decide), fun _ => (by (with_reducible repeat (first | refine blk_drewN ?_ _ | refine blk_drew ?_ | refine blk_alloc ?_ _)); refine blk_far ?_ NB219_218.out _; (with_reducible repeat (first | refine blk_drewN ?_ _ | refine blk_drew ?_ | refine blk_alloc ?_ _)); refine blk_far ?_ NB219_218.out _; exact lb BK219.out), (by (with_reducible repeat (first | refine blk_drewN ?_ _ | refine blk_drew ?_ | refine blk_alloc ?_ _)); refine blk_far ?_ NB225_218.out _; (with_reducible repeat (first | refine blk_drewN ?_ _ | refine blk_drew ?_ | refine blk_alloc ?_ _)); refine blk_far ?_ NB225_218.out _; exact lb BK225.out), fun h0_ => absurd ((hon 2 (by kernel_rfl)).symm.trans h0_) (by decide), (lB HB.out), fun _ h1_ => absurd ((hon 5 (by kernel_rfl)).symm.trans h1_) (by decide), fun _ => (by (with_reducible repeat (first | apply Kd.R_alloc | apply Kd.R_drewN | apply Kd.R_drew)); exact Kd.R_mono (Kd.R_far (p := ⟨gb218, 1, none⟩) (Kd.R_far (p := ⟨gb218, 0, none⟩) (Kd.R_types HO260.out BK218.out (by decide)) (fun _ hk => hk.2) (.string t221)) (fun _ hk => hk.2) (.string t222)) (fun _ hk => trivial)), fun _ => (lI54 HI220.out), fun _ => (by (with_reducible repeat (first | refine blk_drewN ?_ _ | refine blk_drew ?_ | refine blk_alloc ?_ _)); refine blk_put (cs := #[.string t221, .string (⟨#[]⟩ : ByteArray)]) ?_ 1 _ rfl; (with_reducible repeat (first | refine blk_drewN ?_ _ | refine blk_drew ?_ | refine blk_alloc ?_ _)); refine blk_put (cs := #[.string (⟨#[]⟩ : ByteArray), .string (⟨#[]⟩ : ByteArray)]) ?_ 0 _ rfl; exact lb BK218.out), fun h0_ => absurd ((hoff 7 (by kernel_rfl)).symm.trans h0_) (by decide)⟩
       refine steps_cons ?_ ?_
       · rintro b a w' ⟨v259, ha, Q_BK218, Q_BK219, Q_BK225, Q_HI220, Q_HB, Q_HI220_e2, Q_HO260, Q_HI220_e5, Q_BK218_e6, Q_BK219_e7⟩ hb_ hon hoff
         refine ⟨_, rfl, fun K hK => ?_⟩
         have e3 : a.tmps[3]? = some (.pointer (some ⟨gb219, 0, none⟩)) := by rw [ha]; exact (putSel_off rfl).trans rfl
         have e35 : a.tmps[35]? = some (.agg #[.string t254, .string t255]) := by rw [ha]; exact putSel_on (e := (2, 35, .agg #[.string t254, .string t255])) 1 rfl rfl (hon 2 (by kernel_rfl)) rfl
         replace ha := Aside0.mk ha
         have BK219 := Aside0.mk (Q_BK219 hb_)
         have BK225 := Aside0.mk Q_BK225
         have HB := Aside0.mk Q_HB
         have HO260 := Aside0.mk (Q_HO260 (hon 4 (by kernel_rfl)))
         have HI220 := Aside0.mk (Q_HI220_e5 (hon 5 (by kernel_rfl)))
         have BK218 := Aside0.mk (Q_BK218_e6 (hon 6 (by kernel_rfl)))
         have hs92 : w'.cell? ⟨gb219, 0, none⟩ = some (.string (⟨#[]⟩ : ByteArray)) := (blk_cell BK219.out 0).trans rfl
         have hfs92 := blk_frozen BK219.out 0
         have hns92_0 := NB218_219.out
         have hns92_2 := NB225_219.out
         have hms92_0 := NB219_218.out
         have hms92_2 := NB219_225.out
         have hs93 : w'.cell? ⟨gb219, 1, none⟩ = some (.string (⟨#[]⟩ : ByteArray)) := (blk_cell BK219.out 1).trans rfl
         have hfs93 := blk_frozen BK219.out 1
         have hns93_0 := NB218_219.out
         have hns93_2 := NB225_219.out
         have hms93_0 := NB219_218.out
         have hms93_2 := NB219_225.out
         refine skip_ (w1 := ?_) (by rfl) rfl ?_ ?_
         rotate_left
         · go_simp
           rfl
         refine hK.out _ _ ⟨v259, (by rw [ha.out]; exact putSel_none (v := undef) rfl), fun h0_ => absurd ((hon 6 (by kernel_rfl)).symm.trans h0_) (by decide), fun h0_ => absurd ((up_self b 7).symm.trans h0_) (by decide), (by (with_reducible repeat (first | refine blk_drewN ?_ _ | refine blk_drew ?_ | refine blk_alloc ?_ _)); refine blk_far ?_ NB225_219.out _; (with_reducible repeat (first | refine blk_drewN ?_ _ | refine blk_drew ?_ | refine blk_alloc ?_ _)); refine blk_far ?_ NB225_219.out _; exact lb BK225.out), fun h0_ => absurd ((hon 2 (by kernel_rfl)).symm.trans h0_) (by decide), (lB HB.out), fun _ h1_ => absurd ((hon 5 (by kernel_rfl)).symm.trans h1_) (by decide), fun _ => (by (with_reducible repeat (first | apply Kd.R_alloc | apply Kd.R_drewN | apply Kd.R_drew)); exact Kd.R_mono (Kd.R_far (p := ⟨gb219, 1, none⟩) (Kd.R_far (p := ⟨gb219, 0, none⟩) (Kd.R_types HO260.out BK219.out (by decide)) (fun _ hk => hk.2) (.string t254)) (fun _ hk => hk.2) (.string t255)) (fun _ hk => trivial)), fun _ => (lI54 HI220.out), fun _ => (by (with_reducible repeat (first | refine blk_drewN ?_ _ | refine blk_drew ?_ | refine blk_alloc ?_ _)); refine blk_far ?_ NB218_219.out _; (with_reducible repeat (first | refine blk_drewN ?_ _ | refine blk_drew ?_ | refine blk_alloc ?_ _)); refine blk_far ?_ NB218_219.out _; exact lb BK218.out), fun _ => (by (with_reducible repeat (first | refine blk_drewN ?_ _ | refine blk_drew ?_ | refine blk_alloc ?_ _)); refine blk_put (cs := #[.string t254, .string (⟨#[]⟩ : ByteArray)]) ?_ 1 _ rfl; (with_reducible repeat (first | refine blk_drewN ?_ _ | refine blk_drew ?_ | refine blk_alloc ?_ _)); refine blk_put (cs := #[.string (⟨#[]⟩ : ByteArray), .string (⟨#[]⟩ : ByteArray)]) ?_ 0 _ rfl; exact lb BK219.out)⟩
       refine steps_cons ?_ ?_
       · rintro b a w' ⟨v259, ha, Q_BK218, Q_BK219, Q_BK225, Q_HI220, Q_HB, Q_HI220_e2, Q_HO260, Q_HI220_e5, Q_BK218_e6, Q_BK219_e7⟩ hb_ hon hoff
         refine ⟨_, rfl, fun K hK => ?_⟩
         have e38 : a.tmps[38]? = some (.int .i64 t261) := by rw [ha]; exact putSel_on (e := (5, 38, .int .i64 t261)) 3 rfl rfl (hon 5 (by kernel_rfl)) rfl
         replace ha := Aside0.mk ha
         have BK225 := Aside0.mk Q_BK225
         have HB := Aside0.mk Q_HB
         have HO260 := Aside0.mk (Q_HO260 (hon 4 (by kernel_rfl)))
         have HI220 := Aside0.mk (Q_HI220_e5 (hon 5 (by kernel_rfl)))
         have BK218 := Aside0.mk (Q_BK218_e6 (hon 6 (by kernel_rfl)))
         have BK219 := Aside0.mk (Q_BK219_e7 (hon 7 (by kernel_rfl)))
         refine value_ (w1 := w') (v := .int .i64 t261) (by rfl) rfl ?_ ?_
         · go_simp
           (try simp only [i64_w])
           try rfl
         refine hK.out _ _ ⟨v259, (by rw [ha.out]; exact putSel_upk 4 hb_ rfl rfl rfl), fun h0_ => absurd ((hon 6 (by kernel_rfl)).symm.trans h0_) (by decide), fun h0_ => absurd ((hon 7 (by kernel_rfl)).symm.trans h0_) (by decide), Q_BK225, fun h0_ => absurd ((hon 2 (by kernel_rfl)).symm.trans h0_) (by decide), Q_HB, fun _ h1_ => absurd ((hon 5 (by kernel_rfl)).symm.trans h1_) (by decide), Q_HO260, Q_HI220_e5, Q_BK218_e6, Q_BK219_e7⟩
       exact steps_nil
     rintro b a w93 hall ⟨v259, ha, Q_BK218, Q_BK219, Q_BK225, Q_HI220, Q_HB, Q_HI220_e2, Q_HO260, Q_HI220_e5, Q_BK218_e6, Q_BK219_e7⟩
     clear BK218 BK219 BK225 HB HI220
     have hb0_ := hall 0 (by kernel_rfl)
     have hb2_ := hall 2 (by kernel_rfl)
     have hb4_ := hall 4 (by kernel_rfl)
     have hb5_ := hall 5 (by kernel_rfl)
     have hb6_ := hall 6 (by kernel_rfl)
     have hb7_ := hall 7 (by kernel_rfl)
     have hb8_ := hall 8 (by kernel_rfl)
     subst ha
     simp only [putSel, hb0_, hb2_, hb4_, hb5_, hb6_, hb7_, hb8_, if_true, Act.put, List.setIfInBounds_toArray, List.set_cons_zero, List.set_cons_succ]
     clear Q_BK218
     clear Q_BK219
     have BK225 := Aside0.mk Q_BK225
     clear Q_BK225
     clear Q_HI220
     have HB := Aside0.mk Q_HB
     clear Q_HB
     clear Q_HI220_e2
     have HO260 := Aside0.mk (Q_HO260 hb4_)
     clear Q_HO260
     have HI220 := Aside0.mk (Q_HI220_e5 hb5_)
     clear Q_HI220_e5
     have BK218 := Aside0.mk (Q_BK218_e6 hb6_)
     clear Q_BK218_e6
     have BK219 := Aside0.mk (Q_BK219_e7 hb7_)
     clear Q_BK219_e7
     clear hall hb0_ hb2_ hb4_ hb5_ hb6_ hb7_ hb8_
     try go_wp2
     refine bodyPost_ret (results_list (rs := [.cell 2 25, .cell 3 25, .tmp 4]) rfl (by simp) (.cell gb218 25 #[.string t221, .string t222] (0, 0) _ rfl (lb BK218.out) Tryz.underlying25 rfl (by kernel_rfl) (.cell gb219 25 #[.string t254, .string t255] (0, 0) _ rfl (lb BK219.out) Tryz.underlying25 rfl (by kernel_rfl) (.tmp .nil)))) rfl ?_
     exact ⟨lx, by exact lB HB.out⟩

   subst c32
   rw [if_pos rfl] at H
   replace H := Option.bind_eq_some_iff.mp H
   obtain ⟨⟨t236, t237, t238, t239⟩, A330, H⟩ := H
   replace H : ((spec_cjBy.f t221 t222 t236 t237).bind fun bt240 => ((spec_prGood.f bt240.1 bt240.2).bind fun t243 => (if t243 = true then (some (t221, t222, bt240.1, bt240.2, t229)) else ((spec_l1Cur_pair.f kj3 l0 t238 t239 3).bind fun bt244 => ((spec_l1Cur_among.f l0 bt244.2.2.1 bt244.2.2.2 (([0, 1, 2] : List Int))).bind fun bt251 => (some (t221, t222, bt244.1, bt244.2.1, bt251.1))))))) = some (r1, r2, r3, r4, r5) := H
   have A33 := Aside0.mk A330
   clear A330
   replace H := Option.bind_eq_some_iff.mp H
   obtain ⟨⟨t240, t241⟩, A340, H⟩ := H
   replace H : ((spec_prGood.f t240 t241).bind fun t243 => (if t243 = true then (some (t221, t222, t240, t241, t229)) else ((spec_l1Cur_pair.f kj3 l0 t238 t239 3).bind fun bt244 => ((spec_l1Cur_among.f l0 bt244.2.2.1 bt244.2.2.2 (([0, 1, 2] : List Int))).bind fun bt251 => (some (t221, t222, bt244.1, bt244.2.1, bt251.1)))))) = some (r1, r2, r3, r4, r5) := H
   have A34 := Aside0.mk A340
   clear A340
   replace H := Option.bind_eq_some_iff.mp H
   obtain ⟨t243, A350, H⟩ := H
   replace H : (if t243 = true then (some (t221, t222, t240, t241, t229)) else ((spec_l1Cur_pair.f kj3 l0 t238 t239 3).bind fun bt244 => ((spec_l1Cur_among.f l0 bt244.2.2.1 bt244.2.2.2 (([0, 1, 2] : List Int))).bind fun bt251 => (some (t221, t222, bt244.1, bt244.2.1, bt251.1))))) = some (r1, r2, r3, r4, r5) := H
   have A35 := Aside0.mk A350
   clear A350
   by_cases c36 : t243 = true
   · subst c36
     rw [if_pos rfl] at H
     simp only [Option.some.injEq, Prod.mk.injEq] at H
     obtain ⟨rfl, rfl, rfl, rfl, rfl⟩ := H
     try go_wp2
     have n0_ := Aside0.mk (blk_drew BK218.out)
     have n1_ := Aside0.mk (blk_drew BK219.out)
     have n2_ := Aside0.mk (blk_drew BK225.out)
     have n3_ := Aside0.mk (IsS54.drew HI220.out)
     have n4_ := Aside0.mk (below_drew1 HB.out)
     clear BK218
     clear BK219
     clear BK225
     clear HI220
     clear HB
     have BK218 := n0_
     have BK219 := n1_
     have BK225 := n2_
     have HI220 := n3_
     have HB := n4_
     clear n0_ n1_ n2_ n3_ n4_
     refine start_ (n := 6) (S := fun w' => w'.cell? ⟨gb225, 0, none⟩ = some (.string t221) ∧ w'.cell? ⟨gb225, 1, none⟩ = some (.string t222)) (ds := []) #[false, false, false, false, false, false] (by kernel_rfl) rfl rfl ⟨(blk_cell BK225.out 0).trans rfl, (blk_cell BK225.out 1).trans rfl⟩ (fun hHeld => ?_)
     generalize wc.drew = w37 at BK218 BK219 BK225 HI220 HB hHeld ⊢
     refine pure_ (i := 1) (N := some 25) (v := ?_) (a' := ?_) #[false, true, false, false, false, false] rfl rfl (by kernel_rfl) (fun _ _ _ h => h) (Or.inl ⟨by rfl, ?_⟩) ?_ ?_
     rotate_left
     · intro w'
       go_simp
       with_reducible rfl
     rotate_left
     · simp only [Act.put, List.setIfInBounds_toArray, List.set_cons_zero, List.set_cons_succ, i64_w, i32_w]
       rfl
     refine take_ (i := 0) (N := some 24) (v := ?_) (a' := ?_) #[true, true, false, false, false, false] rfl rfl (by kernel_rfl) (fun _ _ _ h => h) (Or.inl ⟨by rfl, ?_⟩) hHeld ?_ ?_
     rotate_left
     · rintro w' ⟨s0, s1⟩
       go_simp
       with_reducible rfl
     rotate_left
     · simp only [Act.put, List.setIfInBounds_toArray, List.set_cons_zero, List.set_cons_succ, i64_w, i32_w]
       rfl
     refine join_ (σ := Nat) 1 #[true, true, true, true, true, false] (fun s_ => [(26, .agg #[.string t236, .string t237]), (27, .agg #[.string t240, .string t241]), (8, .pointer (some ⟨s_, 0, none⟩))]) (fun s_ w' => (w'.cell? ⟨gb225, 0, none⟩ = some (.string t221) ∧ w'.cell? ⟨gb225, 1, none⟩ = some (.string t222)) ∧ (w'.heap[gb218]? = some (.cells #[.string (⟨#[]⟩ : ByteArray), .string (⟨#[]⟩ : ByteArray)] 25 (0, 0))) ∧ (w'.heap[gb219]? = some (.cells #[.string (⟨#[]⟩ : ByteArray), .string (⟨#[]⟩ : ByteArray)] 25 (0, 0))) ∧ (w'.heap[gb225]? = some (.cells #[.string t221, .string t222] 25 (0, 0))) ∧ (w'.heap[s_]? = some (.cells #[.string (⟨#[]⟩ : ByteArray), .string (⟨#[]⟩ : ByteArray)] 25 (0, 0))) ∧ (w.heap.size ≤ s_) ∧ (w.heap.size ≤ s_) ∧ (gb220 ≠ s_) ∧ (s_ ≠ gb220) ∧ (gb218 ≠ s_) ∧ (s_ ≠ gb218) ∧ (gb219 ≠ s_) ∧ (s_ ≠ gb219) ∧ (gb225 ≠ s_) ∧ (s_ ≠ gb225) ∧ (IsS54 w w' gb220 l0 t238 t239) ∧ (Below w.heap.size w w')) ?_ ?_
     rotate_left
     · intro hCont
       refine two_ (i := 2) (j := 4) (Ni := some 26) (Nj := some 8) #[true, true, true, false, false, false] #[true, true, false, false, true, false] rfl rfl rfl rfl (by kernel_rfl) (by decide) (by decide) (fun K hK => ?_) (fun K hK => ?_)
       rotate_left
       · skip
         refine box_step ?hg (N := 8) ?hd (cs := #[.string (⟨#[]⟩ : ByteArray), .string (⟨#[]⟩ : ByteArray)]) (t := 25) ?hr ?_; (case hd => rfl); (case hg => rfl); (case hr => first | (go_simp; done) | (go_simp; rfl))
         intro gb242 hg w38 hbox hb
         have n0_ := Aside0.mk (blk_below (lb BK218.out) hb)
         have n1_ := Aside0.mk (blk_below (lb BK219.out) hb)
         have n2_ := Aside0.mk (blk_below (lb BK225.out) hb)
         have n3_ := Aside0.mk (IsS54.below (lI54 HI220.out) hb)
         have n4_ := Aside0.mk (below_step (lB HB.out) hb)
         have n5_ := Aside0.mk (hbox)
         have n6_ := gw hg (lB HB.out)
         have n7_ := gw hg (lB HB.out)
         have n8_ := na hg (lb BK218.out)
         have n9_ := nz hg (lb BK218.out)
         have n10_ := na hg (lb BK219.out)
         have n11_ := nz hg (lb BK219.out)
         have n12_ := na hg (lb BK225.out)
         have n13_ := nz hg (lb BK225.out)
         have n14_ := Aside0.mk ((by rw [hg]; exact Nat.ne_of_lt (IsS54.lt (show IsS54 w _ gb220 l0 x221001_3 x221002_3 from by exact lI54 HI220.out)) : gb220 ≠ gb242))
         have n15_ := Aside0.mk ((by rw [hg]; exact Nat.ne_of_gt (IsS54.lt (show IsS54 w _ gb220 l0 x221001_3 x221002_3 from by exact lI54 HI220.out)) : gb242 ≠ gb220))
         clear BK218
         clear BK219
         clear BK225
         clear HI220
         clear HB
         have BK218 := n0_
         have BK219 := n1_
         have BK225 := n2_
         have HI220 := n3_
         have HB := n4_
         have BK242 := n5_
         have GW242 := n6_
         have GE242 := n7_
         have NB218_242 := n8_
         have NB242_218 := n9_
         have NB219_242 := n10_
         have NB242_219 := n11_
         have NB225_242 := n12_
         have NB242_225 := n13_
         have NB220_242 := n14_
         have NB242_220 := n15_
         clear n0_ n1_ n2_ n3_ n4_ n5_ n6_ n7_ n8_ n9_ n10_ n11_ n12_ n13_ n14_ n15_
         clear hb hbox hg
         refine hK.out _ _ ⟨(blk_cell BK225.out 0).trans rfl, (blk_cell BK225.out 1).trans rfl⟩ (fun hHeld => ?_)
         clear hK K
         refine norm_ (a' := ?_) ?_ ?_
         rotate_left
         · show Act.put _ (some 8) _ = _
           simp only [Act.put, List.setIfInBounds_toArray, List.set_cons_zero, List.set_cons_succ, i64_w, i32_w]
           rfl
         refine one_ (i := 2) (N := some 26) #[true, true, true, false, true, false] rfl rfl (by kernel_rfl) (by decide) (fun K hK => ?_)
         refine goes_ Tryz.func30 (by kernel_rfl) rfl #[.pointer (some ⟨gb220, 0, none⟩), .int .i64 3] (by rfl) rfl rfl lm ?_
         with_reducible refine (spec_l1Cur_short.calls kj3 gb220 l0 x221001_3 x221002_3 3 t236 t237 t238 t239 w _ ?side1 ?side2 A33.out).mono ?_
         (case side1 => exact lI54 HI220.out)
         (case side2 => exact lB HB.out)
         rintro e w39 ⟨rfl, hi, hb, hk⟩
         refine ⟨_, rfl, ?_⟩
         have n0_ := Aside0.mk (KeepBut.blk hk (g' := gb218) (o := .cells #[.string (⟨#[]⟩ : ByteArray), .string (⟨#[]⟩ : ByteArray)] 25 (0, 0)) (lb BK218.out) NB218_220.out (by simp))
         have n1_ := Aside0.mk (KeepBut.blk hk (g' := gb219) (o := .cells #[.string (⟨#[]⟩ : ByteArray), .string (⟨#[]⟩ : ByteArray)] 25 (0, 0)) (lb BK219.out) NB219_220.out (by simp))
         have n2_ := Aside0.mk (KeepBut.blk hk (g' := gb225) (o := .cells #[.string t221, .string t222] 25 (0, 0)) (lb BK225.out) NB225_220.out (by simp))
         have n3_ := Aside0.mk (KeepBut.blk hk (g' := gb242) (o := .cells #[.string (⟨#[]⟩ : ByteArray), .string (⟨#[]⟩ : ByteArray)] 25 (0, 0)) (lb BK242.out) NB242_220.out (by simp))
         have n4_ := Aside0.mk (hb)
         have n5_ := Aside0.mk (hi)
         clear BK218
         clear BK219
         clear BK225
         clear BK242
         clear HB
         clear HI220
         have BK218 := n0_
         have BK219 := n1_
         have BK225 := n2_
         have BK242 := n3_
         have HB := n4_
         have HI220 := n5_
         clear n0_ n1_ n2_ n3_ n4_ n5_
         (try clear hb); (try clear hk); (try clear hi)
         refine hK.out _ _ ⟨(blk_cell BK225.out 0).trans rfl, (blk_cell BK225.out 1).trans rfl⟩ (fun hHeld => ?_)
         clear hK K
         refine norm_ (a' := ?_) ?_ ?_
         rotate_left
         · show Act.put _ (some 26) _ = _
           simp only [Act.put, List.setIfInBounds_toArray, List.set_cons_zero, List.set_cons_succ, i64_w, i32_w]
           rfl
         refine one_ (i := 3) (N := some 27) #[true, true, true, true, true, false] rfl rfl (by kernel_rfl) (by decide) (fun K hK => ?_)
         refine goes_ Tryz.func29 (by kernel_rfl) rfl #[.agg #[.string t221, .string t222], .agg #[.string t236, .string t237]] (by rfl) rfl rfl lm ?_
         with_reducible refine (spec_cjBy.calls t221 t222 t236 t237 t240 t241 _ A34.out).mono ?_
         rintro e w40 ⟨rfl, hb⟩
         refine ⟨_, rfl, ?_⟩
         have n0_ := Aside0.mk (blk_below (lb BK218.out) hb)
         have n1_ := Aside0.mk (blk_below (lb BK219.out) hb)
         have n2_ := Aside0.mk (blk_below (lb BK225.out) hb)
         have n3_ := Aside0.mk (IsS54.below (lI54 HI220.out) hb)
         have n4_ := Aside0.mk (blk_below (lb BK242.out) hb)
         have n5_ := Aside0.mk (below_step (lB HB.out) hb)
         clear BK218
         clear BK219
         clear BK225
         clear HI220
         clear BK242
         clear HB
         have BK218 := n0_
         have BK219 := n1_
         have BK225 := n2_
         have HI220 := n3_
         have BK242 := n4_
         have HB := n5_
         clear n0_ n1_ n2_ n3_ n4_ n5_
         (try clear hb)
         refine hK.out _ _ ⟨(blk_cell BK225.out 0).trans rfl, (blk_cell BK225.out 1).trans rfl⟩ (fun hHeld => ?_)
         clear hK K
         refine norm_ (a' := ?_) ?_ ?_
         rotate_left
         · show Act.put _ (some 27) _ = _
           simp only [Act.put, List.setIfInBounds_toArray, List.set_cons_zero, List.set_cons_succ, i64_w, i32_w]
           rfl
         exact norm_ (by simp only [putAll, Act.put, List.setIfInBounds_toArray, List.set_cons_zero, List.set_cons_succ]) (hCont (gb242) _ ⟨hHeld, (lb BK218.out), (lb BK219.out), (lb BK225.out), (lb BK242.out), GW242.out, GE242.out, NB220_242.out, NB242_220.out, NB218_242.out, NB242_218.out, NB219_242.out, NB242_219.out, NB225_242.out, NB242_225.out, (lI54 HI220.out), (lB HB.out)⟩)
       skip
       refine goes_ Tryz.func30 (by kernel_rfl) rfl #[.pointer (some ⟨gb220, 0, none⟩), .int .i64 3] (by rfl) rfl rfl lm ?_
       with_reducible refine (spec_l1Cur_short.calls kj3 gb220 l0 x221001_3 x221002_3 3 t236 t237 t238 t239 w _ ?side1 ?side2 A33.out).mono ?_
       (case side1 => exact lI54 HI220.out)
       (case side2 => exact lB HB.out)
       rintro e w38 ⟨rfl, hi, hb, hk⟩
       refine ⟨_, rfl, ?_⟩
       have n0_ := Aside0.mk (KeepBut.blk hk (g' := gb218) (o := .cells #[.string (⟨#[]⟩ : ByteArray), .string (⟨#[]⟩ : ByteArray)] 25 (0, 0)) (lb BK218.out) NB218_220.out (by simp))
       have n1_ := Aside0.mk (KeepBut.blk hk (g' := gb219) (o := .cells #[.string (⟨#[]⟩ : ByteArray), .string (⟨#[]⟩ : ByteArray)] 25 (0, 0)) (lb BK219.out) NB219_220.out (by simp))
       have n2_ := Aside0.mk (KeepBut.blk hk (g' := gb225) (o := .cells #[.string t221, .string t222] 25 (0, 0)) (lb BK225.out) NB225_220.out (by simp))
       have n3_ := Aside0.mk (hb)
       have n4_ := Aside0.mk (hi)
       clear BK218
       clear BK219
       clear BK225
       clear HB
       clear HI220
       have BK218 := n0_
       have BK219 := n1_
       have BK225 := n2_
       have HB := n3_
       have HI220 := n4_
       clear n0_ n1_ n2_ n3_ n4_
       (try clear hb); (try clear hk); (try clear hi)
       refine hK.out _ _ ⟨(blk_cell BK225.out 0).trans rfl, (blk_cell BK225.out 1).trans rfl⟩ (fun hHeld => ?_)
       clear hK K
       refine norm_ (a' := ?_) ?_ ?_
       rotate_left
       · show Act.put _ (some 26) _ = _
         simp only [Act.put, List.setIfInBounds_toArray, List.set_cons_zero, List.set_cons_succ, i64_w, i32_w]
         rfl
       refine two_ (i := 3) (j := 4) (Ni := some 27) (Nj := some 8) #[true, true, true, true, false, false] #[true, true, true, false, true, false] rfl rfl rfl rfl (by kernel_rfl) (by decide) (by decide) (fun K hK => ?_) (fun K hK => ?_)
       · skip
         refine goes_ Tryz.func29 (by kernel_rfl) rfl #[.agg #[.string t221, .string t222], .agg #[.string t236, .string t237]] (by rfl) rfl rfl lm ?_
         with_reducible refine (spec_cjBy.calls t221 t222 t236 t237 t240 t241 _ A34.out).mono ?_
         rintro e w39 ⟨rfl, hb⟩
         refine ⟨_, rfl, ?_⟩
         have n0_ := Aside0.mk (blk_below (lb BK218.out) hb)
         have n1_ := Aside0.mk (blk_below (lb BK219.out) hb)
         have n2_ := Aside0.mk (blk_below (lb BK225.out) hb)
         have n3_ := Aside0.mk (IsS54.below (lI54 HI220.out) hb)
         have n4_ := Aside0.mk (below_step (lB HB.out) hb)
         clear BK218
         clear BK219
         clear BK225
         clear HI220
         clear HB
         have BK218 := n0_
         have BK219 := n1_
         have BK225 := n2_
         have HI220 := n3_
         have HB := n4_
         clear n0_ n1_ n2_ n3_ n4_
         (try clear hb)
         refine hK.out _ _ ⟨(blk_cell BK225.out 0).trans rfl, (blk_cell BK225.out 1).trans rfl⟩ (fun hHeld => ?_)
         clear hK K
         refine norm_ (a' := ?_) ?_ ?_
         rotate_left
         · show Act.put _ (some 27) _ = _
           simp only [Act.put, List.setIfInBounds_toArray, List.set_cons_zero, List.set_cons_succ, i64_w, i32_w]
           rfl
         refine one_ (i := 4) (N := some 8) #[true, true, true, true, true, false] rfl rfl (by kernel_rfl) (by decide) (fun K hK => ?_)
         refine box_step ?hg (N := 8) ?hd (cs := #[.string (⟨#[]⟩ : ByteArray), .string (⟨#[]⟩ : ByteArray)]) (t := 25) ?hr ?_; (case hd => rfl); (case hg => rfl); (case hr => first | (go_simp; done) | (go_simp; rfl))
         intro gb242 hg w40 hbox hb
         have n0_ := Aside0.mk (blk_below (lb BK218.out) hb)
         have n1_ := Aside0.mk (blk_below (lb BK219.out) hb)
         have n2_ := Aside0.mk (blk_below (lb BK225.out) hb)
         have n3_ := Aside0.mk (IsS54.below (lI54 HI220.out) hb)
         have n4_ := Aside0.mk (below_step (lB HB.out) hb)
         have n5_ := Aside0.mk (hbox)
         have n6_ := gw hg (lB HB.out)
         have n7_ := gw hg (lB HB.out)
         have n8_ := na hg (lb BK218.out)
         have n9_ := nz hg (lb BK218.out)
         have n10_ := na hg (lb BK219.out)
         have n11_ := nz hg (lb BK219.out)
         have n12_ := na hg (lb BK225.out)
         have n13_ := nz hg (lb BK225.out)
         have n14_ := Aside0.mk ((by rw [hg]; exact Nat.ne_of_lt (IsS54.lt (show IsS54 w _ gb220 l0 t238 t239 from by exact lI54 HI220.out)) : gb220 ≠ gb242))
         have n15_ := Aside0.mk ((by rw [hg]; exact Nat.ne_of_gt (IsS54.lt (show IsS54 w _ gb220 l0 t238 t239 from by exact lI54 HI220.out)) : gb242 ≠ gb220))
         clear BK218
         clear BK219
         clear BK225
         clear HI220
         clear HB
         have BK218 := n0_
         have BK219 := n1_
         have BK225 := n2_
         have HI220 := n3_
         have HB := n4_
         have BK242 := n5_
         have GW242 := n6_
         have GE242 := n7_
         have NB218_242 := n8_
         have NB242_218 := n9_
         have NB219_242 := n10_
         have NB242_219 := n11_
         have NB225_242 := n12_
         have NB242_225 := n13_
         have NB220_242 := n14_
         have NB242_220 := n15_
         clear n0_ n1_ n2_ n3_ n4_ n5_ n6_ n7_ n8_ n9_ n10_ n11_ n12_ n13_ n14_ n15_
         clear hb hbox hg
         refine hK.out _ _ ⟨(blk_cell BK225.out 0).trans rfl, (blk_cell BK225.out 1).trans rfl⟩ (fun hHeld => ?_)
         clear hK K
         refine norm_ (a' := ?_) ?_ ?_
         rotate_left
         · show Act.put _ (some 8) _ = _
           simp only [Act.put, List.setIfInBounds_toArray, List.set_cons_zero, List.set_cons_succ, i64_w, i32_w]
           rfl
         exact norm_ (by simp only [putAll, Act.put, List.setIfInBounds_toArray, List.set_cons_zero, List.set_cons_succ]) (hCont (gb242) _ ⟨hHeld, (lb BK218.out), (lb BK219.out), (lb BK225.out), (lb BK242.out), GW242.out, GE242.out, NB220_242.out, NB242_220.out, NB218_242.out, NB242_218.out, NB219_242.out, NB242_219.out, NB225_242.out, NB242_225.out, (lI54 HI220.out), (lB HB.out)⟩)
       skip
       refine box_step ?hg (N := 8) ?hd (cs := #[.string (⟨#[]⟩ : ByteArray), .string (⟨#[]⟩ : ByteArray)]) (t := 25) ?hr ?_; (case hd => rfl); (case hg => rfl); (case hr => first | (go_simp; done) | (go_simp; rfl))
       intro gb242 hg w39 hbox hb
       have n0_ := Aside0.mk (blk_below (lb BK218.out) hb)
       have n1_ := Aside0.mk (blk_below (lb BK219.out) hb)
       have n2_ := Aside0.mk (blk_below (lb BK225.out) hb)
       have n3_ := Aside0.mk (IsS54.below (lI54 HI220.out) hb)
       have n4_ := Aside0.mk (below_step (lB HB.out) hb)
       have n5_ := Aside0.mk (hbox)
       have n6_ := gw hg (lB HB.out)
       have n7_ := gw hg (lB HB.out)
       have n8_ := na hg (lb BK218.out)
       have n9_ := nz hg (lb BK218.out)
       have n10_ := na hg (lb BK219.out)
       have n11_ := nz hg (lb BK219.out)
       have n12_ := na hg (lb BK225.out)
       have n13_ := nz hg (lb BK225.out)
       have n14_ := Aside0.mk ((by rw [hg]; exact Nat.ne_of_lt (IsS54.lt (show IsS54 w _ gb220 l0 t238 t239 from by exact lI54 HI220.out)) : gb220 ≠ gb242))
       have n15_ := Aside0.mk ((by rw [hg]; exact Nat.ne_of_gt (IsS54.lt (show IsS54 w _ gb220 l0 t238 t239 from by exact lI54 HI220.out)) : gb242 ≠ gb220))
       clear BK218
       clear BK219
       clear BK225
       clear HI220
       clear HB
       have BK218 := n0_
       have BK219 := n1_
       have BK225 := n2_
       have HI220 := n3_
       have HB := n4_
       have BK242 := n5_
       have GW242 := n6_
       have GE242 := n7_
       have NB218_242 := n8_
       have NB242_218 := n9_
       have NB219_242 := n10_
       have NB242_219 := n11_
       have NB225_242 := n12_
       have NB242_225 := n13_
       have NB220_242 := n14_
       have NB242_220 := n15_
       clear n0_ n1_ n2_ n3_ n4_ n5_ n6_ n7_ n8_ n9_ n10_ n11_ n12_ n13_ n14_ n15_
       clear hb hbox hg
       refine hK.out _ _ ⟨(blk_cell BK225.out 0).trans rfl, (blk_cell BK225.out 1).trans rfl⟩ (fun hHeld => ?_)
       clear hK K
       refine norm_ (a' := ?_) ?_ ?_
       rotate_left
       · show Act.put _ (some 8) _ = _
         simp only [Act.put, List.setIfInBounds_toArray, List.set_cons_zero, List.set_cons_succ, i64_w, i32_w]
         rfl
       refine one_ (i := 3) (N := some 27) #[true, true, true, true, true, false] rfl rfl (by kernel_rfl) (by decide) (fun K hK => ?_)
       refine goes_ Tryz.func29 (by kernel_rfl) rfl #[.agg #[.string t221, .string t222], .agg #[.string t236, .string t237]] (by rfl) rfl rfl lm ?_
       with_reducible refine (spec_cjBy.calls t221 t222 t236 t237 t240 t241 _ A34.out).mono ?_
       rintro e w40 ⟨rfl, hb⟩
       refine ⟨_, rfl, ?_⟩
       have n0_ := Aside0.mk (blk_below (lb BK218.out) hb)
       have n1_ := Aside0.mk (blk_below (lb BK219.out) hb)
       have n2_ := Aside0.mk (blk_below (lb BK225.out) hb)
       have n3_ := Aside0.mk (IsS54.below (lI54 HI220.out) hb)
       have n4_ := Aside0.mk (blk_below (lb BK242.out) hb)
       have n5_ := Aside0.mk (below_step (lB HB.out) hb)
       clear BK218
       clear BK219
       clear BK225
       clear HI220
       clear BK242
       clear HB
       have BK218 := n0_
       have BK219 := n1_
       have BK225 := n2_
       have HI220 := n3_
       have BK242 := n4_
       have HB := n5_
       clear n0_ n1_ n2_ n3_ n4_ n5_
       (try clear hb)
       refine hK.out _ _ ⟨(blk_cell BK225.out 0).trans rfl, (blk_cell BK225.out 1).trans rfl⟩ (fun hHeld => ?_)
       clear hK K
       refine norm_ (a' := ?_) ?_ ?_
       rotate_left
       · show Act.put _ (some 27) _ = _
         simp only [Act.put, List.setIfInBounds_toArray, List.set_cons_zero, List.set_cons_succ, i64_w, i32_w]
         rfl
       exact norm_ (by simp only [putAll, Act.put, List.setIfInBounds_toArray, List.set_cons_zero, List.set_cons_succ]) (hCont (gb242) _ ⟨hHeld, (lb BK218.out), (lb BK219.out), (lb BK225.out), (lb BK242.out), GW242.out, GE242.out, NB220_242.out, NB242_220.out, NB218_242.out, NB242_218.out, NB219_242.out, NB242_219.out, NB225_242.out, NB242_225.out, (lI54 HI220.out), (lB HB.out)⟩)
     rintro gb242 w41 ⟨hS_, h0_, h1_, h2_, h3_, h4_, h5_, h6_, h7_, h8_, h9_, h10_, h11_, h12_, h13_, h14_, h15_⟩
     have n0_ : Aside0 (w41.heap[gb218]? = some (.cells #[.string (⟨#[]⟩ : ByteArray), .string (⟨#[]⟩ : ByteArray)] 25 (0, 0))) := ⟨h0_⟩
     have n1_ : Aside0 (w41.heap[gb219]? = some (.cells #[.string (⟨#[]⟩ : ByteArray), .string (⟨#[]⟩ : ByteArray)] 25 (0, 0))) := ⟨h1_⟩
     have n2_ : Aside0 (w41.heap[gb225]? = some (.cells #[.string t221, .string t222] 25 (0, 0))) := ⟨h2_⟩
     have n3_ : Aside0 (w41.heap[gb242]? = some (.cells #[.string (⟨#[]⟩ : ByteArray), .string (⟨#[]⟩ : ByteArray)] 25 (0, 0))) := ⟨h3_⟩
     have n4_ : Aside0 (w.heap.size ≤ gb242) := ⟨h4_⟩
     have n5_ : Aside0 (w.heap.size ≤ gb242) := ⟨h5_⟩
     have n6_ : Aside0 (gb220 ≠ gb242) := ⟨h6_⟩
     have n7_ : Aside0 (gb242 ≠ gb220) := ⟨h7_⟩
     have n8_ : Aside0 (gb218 ≠ gb242) := ⟨h8_⟩
     have n9_ : Aside0 (gb242 ≠ gb218) := ⟨h9_⟩
     have n10_ : Aside0 (gb219 ≠ gb242) := ⟨h10_⟩
     have n11_ : Aside0 (gb242 ≠ gb219) := ⟨h11_⟩
     have n12_ : Aside0 (gb225 ≠ gb242) := ⟨h12_⟩
     have n13_ : Aside0 (gb242 ≠ gb225) := ⟨h13_⟩
     have n14_ : Aside0 (IsS54 w w41 gb220 l0 t238 t239) := ⟨h14_⟩
     have n15_ : Aside0 (Below w.heap.size w w41) := ⟨h15_⟩
     clear BK218
     clear BK219
     clear BK225
     clear HI220
     clear HB
     clear h0_ h1_ h2_ h3_ h4_ h5_ h6_ h7_ h8_ h9_ h10_ h11_ h12_ h13_ h14_ h15_
     have BK218 := n0_
     have BK219 := n1_
     have BK225 := n2_
     have BK242 := n3_
     have GW242 := n4_
     have GE242 := n5_
     have NB220_242 := n6_
     have NB242_220 := n7_
     have NB218_242 := n8_
     have NB242_218 := n9_
     have NB219_242 := n10_
     have NB242_219 := n11_
     have NB225_242 := n12_
     have NB242_225 := n13_
     have HI220 := n14_
     have HB := n15_
     clear n0_ n1_ n2_ n3_ n4_ n5_ n6_ n7_ n8_ n9_ n10_ n11_ n12_ n13_ n14_ n15_
     have hHeld : w41.cell? ⟨gb225, 0, none⟩ = some (.string t221) ∧ w41.cell? ⟨gb225, 1, none⟩ = some (.string t222) := hS_
     refine norm_ (a' := ?_) ?_ ?_
     rotate_left
     · simp only [putAll, Act.put, List.setIfInBounds_toArray, List.set_cons_zero, List.set_cons_succ]
       rfl
     refine one_ (i := 5) (N := none) #[true, true, true, true, true, true] rfl rfl (by kernel_rfl) (by decide) (fun K hK => ?_)
     have hs42 : w41.cell? ⟨gb242, 0, none⟩ = some (.string (⟨#[]⟩ : ByteArray)) := (blk_cell BK242.out 0).trans rfl
     have hfs42 := blk_frozen BK242.out 0
     have hns42_0 := NB218_242.out
     have hns42_1 := NB219_242.out
     have hns42_2 := NB225_242.out
     have hms42_0 := NB242_218.out
     have hms42_1 := NB242_219.out
     have hms42_2 := NB242_225.out
     have hs43 : w41.cell? ⟨gb242, 1, none⟩ = some (.string (⟨#[]⟩ : ByteArray)) := (blk_cell BK242.out 1).trans rfl
     have hfs43 := blk_frozen BK242.out 1
     have hns43_0 := NB218_242.out
     have hns43_1 := NB219_242.out
     have hns43_2 := NB225_242.out
     have hms43_0 := NB242_218.out
     have hms43_1 := NB242_219.out
     have hms43_2 := NB242_225.out
     refine skip_ (w1 := ?_) (by rfl) rfl ?_ ?_
     rotate_left
     · go_simp
       rfl
     refine hK.out _ _ ⟨((cell_far (p := ⟨gb242, _, none⟩) NB225_242.out _).trans (((cell_far (p := ⟨gb242, _, none⟩) NB225_242.out _).trans (hHeld.1)))), ((cell_far (p := ⟨gb242, _, none⟩) NB225_242.out _).trans (((cell_far (p := ⟨gb242, _, none⟩) NB225_242.out _).trans (hHeld.2))))⟩ (fun hHeld => ?_)
     clear hK K
     refine done_ (by kernel_rfl) ?_
     have hnb44 := NB242_218.out
     have hnc44 := NB218_242.out
     have hnb45 := NB242_219.out
     have hnc45 := NB219_242.out
     have hnb46 := NB242_225.out
     have hnc46 := NB225_242.out
     have hnb47 := NB242_220.out
     have hnc47 := NB220_242.out
     have hcz48_0 : w41.cell? ⟨gb242, 0, none⟩ = some (.string (⟨#[]⟩ : ByteArray)) := (blk_cell BK242.out 0).trans rfl
     have hcz48_1 : w41.cell? ⟨gb242, 1, none⟩ = some (.string (⟨#[]⟩ : ByteArray)) := (blk_cell BK242.out 1).trans rfl
     have hfz48_0 := blk_frozen BK242.out 0
     have hfz48_1 := blk_frozen BK242.out 1
     try go_wp2_with (first | ((with_reducible refine gate_callee (f := 27) rfl ?_); refine goesL_ (some 29) rfl rfl Tryz.func27 (by kernel_rfl) rfl #[.agg #[.string t240, .string t241]] rfl lm ?_; (with_reducible refine (spec_prGood.calls t240 t241 true _ A35.out).mono ?_); rintro e w49 ⟨rfl, hb⟩; refine ⟨_, rfl, ?_⟩; have n0_ := Aside0.mk (blk_below (g := gb218) (o := .cells #[.string (⟨#[]⟩ : ByteArray), .string (⟨#[]⟩ : ByteArray)] 25 (0, 0)) (by (with_reducible repeat (first | refine blk_drewN ?_ _ | refine blk_drew ?_ | refine blk_alloc ?_ _)); refine blk_far ?_ NB218_242.out _; (with_reducible repeat (first | refine blk_drewN ?_ _ | refine blk_drew ?_ | refine blk_alloc ?_ _)); refine blk_far ?_ NB218_242.out _; exact lb BK218.out) hb); have n1_ := Aside0.mk (blk_below (g := gb219) (o := .cells #[.string (⟨#[]⟩ : ByteArray), .string (⟨#[]⟩ : ByteArray)] 25 (0, 0)) (by (with_reducible repeat (first | refine blk_drewN ?_ _ | refine blk_drew ?_ | refine blk_alloc ?_ _)); refine blk_far ?_ NB219_242.out _; (with_reducible repeat (first | refine blk_drewN ?_ _ | refine blk_drew ?_ | refine blk_alloc ?_ _)); refine blk_far ?_ NB219_242.out _; exact lb BK219.out) hb); have n2_ := Aside0.mk (blk_below (g := gb225) (o := .cells #[.string t221, .string t222] 25 (0, 0)) (by (with_reducible repeat (first | refine blk_drewN ?_ _ | refine blk_drew ?_ | refine blk_alloc ?_ _)); refine blk_far ?_ NB225_242.out _; (with_reducible repeat (first | refine blk_drewN ?_ _ | refine blk_drew ?_ | refine blk_alloc ?_ _)); refine blk_far ?_ NB225_242.out _; exact lb BK225.out) hb); have n3_ := Aside0.mk (IsS54.below (show IsS54 w ((w41.setCell ⟨gb242, 0, none⟩ (.string t240)).setCell ⟨gb242, 1, none⟩ (.string t241)) gb220 l0 t238 t239 from by exact lI54 HI220.out) hb); have n4_ := Aside0.mk (blk_below (g := gb242) (o := .cells #[.string t240, .string t241] 25 (0, 0)) (by (with_reducible repeat (first | refine blk_drewN ?_ _ | refine blk_drew ?_ | refine blk_alloc ?_ _)); refine blk_put (cs := #[.string t240, .string (⟨#[]⟩ : ByteArray)]) ?_ 1 _ rfl; (with_reducible repeat (first | refine blk_drewN ?_ _ | refine blk_drew ?_ | refine blk_alloc ?_ _)); refine blk_put (cs := #[.string (⟨#[]⟩ : ByteArray), .string (⟨#[]⟩ : ByteArray)]) ?_ 0 _ rfl; exact lb BK242.out) hb); have n5_ := Aside0.mk (below_step (lB HB.out) hb); clear BK218 BK219 BK225 HI220 BK242 HB; have BK218 := n0_; have BK219 := n1_; have BK225 := n2_; have HI220 := n3_; have BK242 := n4_; have HB := n5_; clear n0_ n1_ n2_ n3_ n4_ n5_; (try clear hb); (try clear hb2); (try clear hk); (try clear hi)))
     have n0_ := Aside0.mk (blk_drew BK218.out)
     have n1_ := Aside0.mk (blk_drew BK219.out)
     have n2_ := Aside0.mk (blk_drew BK225.out)
     have n3_ := Aside0.mk (blk_drew BK242.out)
     have n4_ := Aside0.mk (IsS54.drew HI220.out)
     have n5_ := Aside0.mk (below_drew1 HB.out)
     clear BK218
     clear BK219
     clear BK225
     clear BK242
     clear HI220
     clear HB
     have BK218 := n0_
     have BK219 := n1_
     have BK225 := n2_
     have BK242 := n3_
     have HI220 := n4_
     have HB := n5_
     clear n0_ n1_ n2_ n3_ n4_ n5_
     refine start_ (n := 6) (S := fun w' => w'.cell? ⟨gb225, 0, none⟩ = some (.string t221) ∧ w'.cell? ⟨gb225, 1, none⟩ = some (.string t222) ∧ w'.cell? ⟨gb242, 0, none⟩ = some (.string t240) ∧ w'.cell? ⟨gb242, 1, none⟩ = some (.string t241)) (ds := []) #[false, false, false, false, false, false] (by kernel_rfl) rfl rfl ⟨(blk_cell BK225.out 0).trans rfl, (blk_cell BK225.out 1).trans rfl, (blk_cell BK242.out 0).trans rfl, (blk_cell BK242.out 1).trans rfl⟩ (fun hHeld => ?_)
     generalize w49.drew = w50 at BK218 BK219 BK225 BK242 HI220 HB hHeld ⊢
     refine pure_ (i := 2) (N := some 32) (v := ?_) (a' := ?_) #[false, false, true, false, false, false] rfl rfl (by kernel_rfl) (fun _ _ _ h => h) (Or.inl ⟨by rfl, ?_⟩) ?_ ?_
     rotate_left
     · intro w'
       go_simp
       with_reducible rfl
     rotate_left
     · simp only [Act.put, List.setIfInBounds_toArray, List.set_cons_zero, List.set_cons_succ, i64_w, i32_w]
       rfl
     refine take_ (i := 0) (N := some 30) (v := ?_) (a' := ?_) #[true, false, true, false, false, false] rfl rfl (by kernel_rfl) (fun _ _ _ h => h) (Or.inl ⟨by rfl, ?_⟩) hHeld ?_ ?_
     rotate_left
     · rintro w' ⟨s0, s1, s2, s3⟩
       go_simp
       with_reducible rfl
     rotate_left
     · simp only [Act.put, List.setIfInBounds_toArray, List.set_cons_zero, List.set_cons_succ, i64_w, i32_w]
       rfl
     refine take_ (i := 1) (N := some 31) (v := ?_) (a' := ?_) #[true, true, true, false, false, false] rfl rfl (by kernel_rfl) (fun _ _ _ h => h) (Or.inl ⟨by rfl, ?_⟩) hHeld ?_ ?_
     rotate_left
     · rintro w' ⟨s0, s1, s2, s3⟩
       go_simp
       with_reducible rfl
     rotate_left
     · simp only [Act.put, List.setIfInBounds_toArray, List.set_cons_zero, List.set_cons_succ, i64_w, i32_w]
       rfl
     refine one_ (i := 3) (N := none) #[true, true, true, true, false, false] rfl rfl (by kernel_rfl) (by decide) (fun K hK => ?_)
     have hs51 : w50.cell? ⟨gb218, 0, none⟩ = some (.string (⟨#[]⟩ : ByteArray)) := (blk_cell BK218.out 0).trans rfl
     have hfs51 := blk_frozen BK218.out 0
     have hns51_1 := NB219_218.out
     have hns51_2 := NB225_218.out
     have hns51_3 := NB242_218.out
     have hms51_1 := NB218_219.out
     have hms51_2 := NB218_225.out
     have hms51_3 := NB218_242.out
     have hs52 : w50.cell? ⟨gb218, 1, none⟩ = some (.string (⟨#[]⟩ : ByteArray)) := (blk_cell BK218.out 1).trans rfl
     have hfs52 := blk_frozen BK218.out 1
     have hns52_1 := NB219_218.out
     have hns52_2 := NB225_218.out
     have hns52_3 := NB242_218.out
     have hms52_1 := NB218_219.out
     have hms52_2 := NB218_225.out
     have hms52_3 := NB218_242.out
     refine skip_ (w1 := ?_) (by rfl) rfl ?_ ?_
     rotate_left
     · go_simp
       rfl
     refine hK.out _ _ ⟨((cell_far (p := ⟨gb218, _, none⟩) NB225_218.out _).trans (((cell_far (p := ⟨gb218, _, none⟩) NB225_218.out _).trans (hHeld.1)))), ((cell_far (p := ⟨gb218, _, none⟩) NB225_218.out _).trans (((cell_far (p := ⟨gb218, _, none⟩) NB225_218.out _).trans (hHeld.2.1)))), ((cell_far (p := ⟨gb218, _, none⟩) NB242_218.out _).trans (((cell_far (p := ⟨gb218, _, none⟩) NB242_218.out _).trans (hHeld.2.2.1)))), ((cell_far (p := ⟨gb218, _, none⟩) NB242_218.out _).trans (((cell_far (p := ⟨gb218, _, none⟩) NB242_218.out _).trans (hHeld.2.2.2))))⟩ (fun hHeld => ?_)
     clear hK K
     refine one_ (i := 4) (N := none) #[true, true, true, true, true, false] rfl rfl (by kernel_rfl) (by decide) (fun K hK => ?_)
     have hs53 : w50.cell? ⟨gb219, 0, none⟩ = some (.string (⟨#[]⟩ : ByteArray)) := (blk_cell BK219.out 0).trans rfl
     have hfs53 := blk_frozen BK219.out 0
     have hns53_0 := NB218_219.out
     have hns53_2 := NB225_219.out
     have hns53_3 := NB242_219.out
     have hms53_0 := NB219_218.out
     have hms53_2 := NB219_225.out
     have hms53_3 := NB219_242.out
     have hs54 : w50.cell? ⟨gb219, 1, none⟩ = some (.string (⟨#[]⟩ : ByteArray)) := (blk_cell BK219.out 1).trans rfl
     have hfs54 := blk_frozen BK219.out 1
     have hns54_0 := NB218_219.out
     have hns54_2 := NB225_219.out
     have hns54_3 := NB242_219.out
     have hms54_0 := NB219_218.out
     have hms54_2 := NB219_225.out
     have hms54_3 := NB219_242.out
     refine skip_ (w1 := ?_) (by rfl) rfl ?_ ?_
     rotate_left
     · go_simp
       rfl
     refine hK.out _ _ ⟨((cell_far (p := ⟨gb219, _, none⟩) NB225_219.out _).trans (((cell_far (p := ⟨gb219, _, none⟩) NB225_219.out _).trans (hHeld.1)))), ((cell_far (p := ⟨gb219, _, none⟩) NB225_219.out _).trans (((cell_far (p := ⟨gb219, _, none⟩) NB225_219.out _).trans (hHeld.2.1)))), ((cell_far (p := ⟨gb219, _, none⟩) NB242_219.out _).trans (((cell_far (p := ⟨gb219, _, none⟩) NB242_219.out _).trans (hHeld.2.2.1)))), ((cell_far (p := ⟨gb219, _, none⟩) NB242_219.out _).trans (((cell_far (p := ⟨gb219, _, none⟩) NB242_219.out _).trans (hHeld.2.2.2))))⟩ (fun hHeld => ?_)
     clear hK K
     refine pure_ (i := 5) (N := some 4) (v := ?_) (a' := ?_) #[true, true, true, true, true, true] rfl rfl (by kernel_rfl) (fun _ _ _ h => h) (Or.inl ⟨by rfl, ?_⟩) ?_ ?_
     rotate_left
     · intro w'
       go_simp
       with_reducible rfl
     rotate_left
     · simp only [Act.put, List.setIfInBounds_toArray, List.set_cons_zero, List.set_cons_succ, i64_w, i32_w]
       rfl
     refine done_ (by kernel_rfl) ?_
     try go_wp2
     refine bodyPost_ret (results_list (rs := [.cell 2 25, .cell 3 25, .tmp 4]) rfl (by simp) (.cell gb218 25 #[.string t221, .string t222] (0, 0) _ rfl (by (with_reducible repeat (first | refine blk_drewN ?_ _ | refine blk_drew ?_ | refine blk_alloc ?_ _)); refine blk_far ?_ NB218_219.out _; (with_reducible repeat (first | refine blk_drewN ?_ _ | refine blk_drew ?_ | refine blk_alloc ?_ _)); refine blk_far ?_ NB218_219.out _; (with_reducible repeat (first | refine blk_drewN ?_ _ | refine blk_drew ?_ | refine blk_alloc ?_ _)); refine blk_put (cs := #[.string t221, .string (⟨#[]⟩ : ByteArray)]) ?_ 1 _ rfl; (with_reducible repeat (first | refine blk_drewN ?_ _ | refine blk_drew ?_ | refine blk_alloc ?_ _)); refine blk_put (cs := #[.string (⟨#[]⟩ : ByteArray), .string (⟨#[]⟩ : ByteArray)]) ?_ 0 _ rfl; exact lb BK218.out) Tryz.underlying25 rfl (by kernel_rfl) (.cell gb219 25 #[.string t240, .string t241] (0, 0) _ rfl (by (with_reducible repeat (first | refine blk_drewN ?_ _ | refine blk_drew ?_ | refine blk_alloc ?_ _)); refine blk_put (cs := #[.string t240, .string (⟨#[]⟩ : ByteArray)]) ?_ 1 _ rfl; (with_reducible repeat (first | refine blk_drewN ?_ _ | refine blk_drew ?_ | refine blk_alloc ?_ _)); refine blk_put (cs := #[.string (⟨#[]⟩ : ByteArray), .string (⟨#[]⟩ : ByteArray)]) ?_ 0 _ rfl; (with_reducible repeat (first | refine blk_drewN ?_ _ | refine blk_drew ?_ | refine blk_alloc ?_ _)); refine blk_far ?_ NB219_218.out _; (with_reducible repeat (first | refine blk_drewN ?_ _ | refine blk_drew ?_ | refine blk_alloc ?_ _)); refine blk_far ?_ NB219_218.out _; exact lb BK219.out) Tryz.underlying25 rfl (by kernel_rfl) (.tmp .nil)))) rfl ?_
     exact ⟨lx, by exact lB HB.out⟩
   replace c36 := Bool.eq_false_iff.mpr c36
   subst c36
   rw [if_neg (show ¬ (false = true) by decide)] at H
   replace H := Option.bind_eq_some_iff.mp H
   obtain ⟨⟨t244, t245, t246, t247⟩, A550, H⟩ := H
   replace H : ((spec_l1Cur_among.f l0 t246 t247 (([0, 1, 2] : List Int))).bind fun bt251 => (some (t221, t222, t244, t245, bt251.1))) = some (r1, r2, r3, r4, r5) := H
   have A55 := Aside0.mk A550
   clear A550
   obtain ⟨y248, hy248⟩ : ∃ y_ : List Int, y_ = (([0, 1, 2] : List Int)) := ⟨_, rfl⟩
   replace H : ((spec_l1Cur_among.f l0 t246 t247 y248).bind fun bt251 => (some (t221, t222, t244, t245, bt251.1))) = some (r1, r2, r3, r4, r5) := by first | (rw [hy248]; with_reducible exact H) | (have H2_ := (Option.bind_some _ _).symm.trans H; rw [hy248]; with_reducible exact H2_) | (have H2_ := (Option.bind_some _ _).symm.trans H; with_reducible exact H2_) | with_reducible exact H | (rw [hy248]; exact H) | exact H
   have Ny248 := Aside0.mk hy248
   clear hy248
   replace H := Option.bind_eq_some_iff.mp H
   obtain ⟨⟨t251, t252, t253⟩, A560, H⟩ := H
   replace H : (some (t221, t222, t244, t245, t251)) = some (r1, r2, r3, r4, r5) := H
   have A56 := Aside0.mk A560
   clear A560
   simp only [Option.some.injEq, Prod.mk.injEq] at H
   obtain ⟨rfl, rfl, rfl, rfl, rfl⟩ := H
   try go_wp2
   have n0_ := Aside0.mk (blk_drew BK218.out)
   have n1_ := Aside0.mk (blk_drew BK219.out)
   have n2_ := Aside0.mk (blk_drew BK225.out)
   have n3_ := Aside0.mk (IsS54.drew HI220.out)
   have n4_ := Aside0.mk (below_drew1 HB.out)
   clear BK218
   clear BK219
   clear BK225
   clear HI220
   clear HB
   have BK218 := n0_
   have BK219 := n1_
   have BK225 := n2_
   have HI220 := n3_
   have HB := n4_
   clear n0_ n1_ n2_ n3_ n4_
   refine start_ (n := 6) (S := fun w' => w'.cell? ⟨gb225, 0, none⟩ = some (.string t221) ∧ w'.cell? ⟨gb225, 1, none⟩ = some (.string t222)) (ds := []) #[false, false, false, false, false, false] (by kernel_rfl) rfl rfl ⟨(blk_cell BK225.out 0).trans rfl, (blk_cell BK225.out 1).trans rfl⟩ (fun hHeld => ?_)
   generalize wc.drew = w57 at BK218 BK219 BK225 HI220 HB hHeld ⊢
   refine pure_ (i := 1) (N := some 25) (v := ?_) (a' := ?_) #[false, true, false, false, false, false] rfl rfl (by kernel_rfl) (fun _ _ _ h => h) (Or.inl ⟨by rfl, ?_⟩) ?_ ?_
   rotate_left
   · intro w'
     go_simp
     with_reducible rfl
   rotate_left
   · simp only [Act.put, List.setIfInBounds_toArray, List.set_cons_zero, List.set_cons_succ, i64_w, i32_w]
     rfl
   refine take_ (i := 0) (N := some 24) (v := ?_) (a' := ?_) #[true, true, false, false, false, false] rfl rfl (by kernel_rfl) (fun _ _ _ h => h) (Or.inl ⟨by rfl, ?_⟩) hHeld ?_ ?_
   rotate_left
   · rintro w' ⟨s0, s1⟩
     go_simp
     with_reducible rfl
   rotate_left
   · simp only [Act.put, List.setIfInBounds_toArray, List.set_cons_zero, List.set_cons_succ, i64_w, i32_w]
     rfl
   refine join_ (σ := Nat) 1 #[true, true, true, true, true, false] (fun s_ => [(26, .agg #[.string t236, .string t237]), (27, .agg #[.string t240, .string t241]), (8, .pointer (some ⟨s_, 0, none⟩))]) (fun s_ w' => (w'.cell? ⟨gb225, 0, none⟩ = some (.string t221) ∧ w'.cell? ⟨gb225, 1, none⟩ = some (.string t222)) ∧ (w'.heap[gb218]? = some (.cells #[.string (⟨#[]⟩ : ByteArray), .string (⟨#[]⟩ : ByteArray)] 25 (0, 0))) ∧ (w'.heap[gb219]? = some (.cells #[.string (⟨#[]⟩ : ByteArray), .string (⟨#[]⟩ : ByteArray)] 25 (0, 0))) ∧ (w'.heap[gb225]? = some (.cells #[.string t221, .string t222] 25 (0, 0))) ∧ (w'.heap[s_]? = some (.cells #[.string (⟨#[]⟩ : ByteArray), .string (⟨#[]⟩ : ByteArray)] 25 (0, 0))) ∧ (w.heap.size ≤ s_) ∧ (w.heap.size ≤ s_) ∧ (gb220 ≠ s_) ∧ (s_ ≠ gb220) ∧ (gb218 ≠ s_) ∧ (s_ ≠ gb218) ∧ (gb219 ≠ s_) ∧ (s_ ≠ gb219) ∧ (gb225 ≠ s_) ∧ (s_ ≠ gb225) ∧ (IsS54 w w' gb220 l0 t238 t239) ∧ (Below w.heap.size w w')) ?_ ?_
   rotate_left
   · intro hCont
     refine two_ (i := 2) (j := 4) (Ni := some 26) (Nj := some 8) #[true, true, true, false, false, false] #[true, true, false, false, true, false] rfl rfl rfl rfl (by kernel_rfl) (by decide) (by decide) (fun K hK => ?_) (fun K hK => ?_)
     rotate_left
     · skip
       refine box_step ?hg (N := 8) ?hd (cs := #[.string (⟨#[]⟩ : ByteArray), .string (⟨#[]⟩ : ByteArray)]) (t := 25) ?hr ?_; (case hd => rfl); (case hg => rfl); (case hr => first | (go_simp; done) | (go_simp; rfl))
       intro gb242 hg w58 hbox hb
       have n0_ := Aside0.mk (blk_below (lb BK218.out) hb)
       have n1_ := Aside0.mk (blk_below (lb BK219.out) hb)
       have n2_ := Aside0.mk (blk_below (lb BK225.out) hb)
       have n3_ := Aside0.mk (IsS54.below (lI54 HI220.out) hb)
       have n4_ := Aside0.mk (below_step (lB HB.out) hb)
       have n5_ := Aside0.mk (hbox)
       have n6_ := gw hg (lB HB.out)
       have n7_ := gw hg (lB HB.out)
       have n8_ := na hg (lb BK218.out)
       have n9_ := nz hg (lb BK218.out)
       have n10_ := na hg (lb BK219.out)
       have n11_ := nz hg (lb BK219.out)
       have n12_ := na hg (lb BK225.out)
       have n13_ := nz hg (lb BK225.out)
       have n14_ := Aside0.mk ((by rw [hg]; exact Nat.ne_of_lt (IsS54.lt (show IsS54 w _ gb220 l0 x221001_3 x221002_3 from by exact lI54 HI220.out)) : gb220 ≠ gb242))
       have n15_ := Aside0.mk ((by rw [hg]; exact Nat.ne_of_gt (IsS54.lt (show IsS54 w _ gb220 l0 x221001_3 x221002_3 from by exact lI54 HI220.out)) : gb242 ≠ gb220))
       clear BK218
       clear BK219
       clear BK225
       clear HI220
       clear HB
       have BK218 := n0_
       have BK219 := n1_
       have BK225 := n2_
       have HI220 := n3_
       have HB := n4_
       have BK242 := n5_
       have GW242 := n6_
       have GE242 := n7_
       have NB218_242 := n8_
       have NB242_218 := n9_
       have NB219_242 := n10_
       have NB242_219 := n11_
       have NB225_242 := n12_
       have NB242_225 := n13_
       have NB220_242 := n14_
       have NB242_220 := n15_
       clear n0_ n1_ n2_ n3_ n4_ n5_ n6_ n7_ n8_ n9_ n10_ n11_ n12_ n13_ n14_ n15_
       clear hb hbox hg
       refine hK.out _ _ ⟨(blk_cell BK225.out 0).trans rfl, (blk_cell BK225.out 1).trans rfl⟩ (fun hHeld => ?_)
       clear hK K
       refine norm_ (a' := ?_) ?_ ?_
       rotate_left
       · show Act.put _ (some 8) _ = _
         simp only [Act.put, List.setIfInBounds_toArray, List.set_cons_zero, List.set_cons_succ, i64_w, i32_w]
         rfl
       refine one_ (i := 2) (N := some 26) #[true, true, true, false, true, false] rfl rfl (by kernel_rfl) (by decide) (fun K hK => ?_)
       refine goes_ Tryz.func30 (by kernel_rfl) rfl #[.pointer (some ⟨gb220, 0, none⟩), .int .i64 3] (by rfl) rfl rfl lm ?_
       with_reducible refine (spec_l1Cur_short.calls kj3 gb220 l0 x221001_3 x221002_3 3 t236 t237 t238 t239 w _ ?side1 ?side2 A33.out).mono ?_
       (case side1 => exact lI54 HI220.out)
       (case side2 => exact lB HB.out)
       rintro e w59 ⟨rfl, hi, hb, hk⟩
       refine ⟨_, rfl, ?_⟩
       have n0_ := Aside0.mk (KeepBut.blk hk (g' := gb218) (o := .cells #[.string (⟨#[]⟩ : ByteArray), .string (⟨#[]⟩ : ByteArray)] 25 (0, 0)) (lb BK218.out) NB218_220.out (by simp))
       have n1_ := Aside0.mk (KeepBut.blk hk (g' := gb219) (o := .cells #[.string (⟨#[]⟩ : ByteArray), .string (⟨#[]⟩ : ByteArray)] 25 (0, 0)) (lb BK219.out) NB219_220.out (by simp))
       have n2_ := Aside0.mk (KeepBut.blk hk (g' := gb225) (o := .cells #[.string t221, .string t222] 25 (0, 0)) (lb BK225.out) NB225_220.out (by simp))
       have n3_ := Aside0.mk (KeepBut.blk hk (g' := gb242) (o := .cells #[.string (⟨#[]⟩ : ByteArray), .string (⟨#[]⟩ : ByteArray)] 25 (0, 0)) (lb BK242.out) NB242_220.out (by simp))
       have n4_ := Aside0.mk (hb)
       have n5_ := Aside0.mk (hi)
       clear BK218
       clear BK219
       clear BK225
       clear BK242
       clear HB
       clear HI220
       have BK218 := n0_
       have BK219 := n1_
       have BK225 := n2_
       have BK242 := n3_
       have HB := n4_
       have HI220 := n5_
       clear n0_ n1_ n2_ n3_ n4_ n5_
       (try clear hb); (try clear hk); (try clear hi)
       refine hK.out _ _ ⟨(blk_cell BK225.out 0).trans rfl, (blk_cell BK225.out 1).trans rfl⟩ (fun hHeld => ?_)
       clear hK K
       refine norm_ (a' := ?_) ?_ ?_
       rotate_left
       · show Act.put _ (some 26) _ = _
         simp only [Act.put, List.setIfInBounds_toArray, List.set_cons_zero, List.set_cons_succ, i64_w, i32_w]
         rfl
       refine one_ (i := 3) (N := some 27) #[true, true, true, true, true, false] rfl rfl (by kernel_rfl) (by decide) (fun K hK => ?_)
       refine goes_ Tryz.func29 (by kernel_rfl) rfl #[.agg #[.string t221, .string t222], .agg #[.string t236, .string t237]] (by rfl) rfl rfl lm ?_
       with_reducible refine (spec_cjBy.calls t221 t222 t236 t237 t240 t241 _ A34.out).mono ?_
       rintro e w60 ⟨rfl, hb⟩
       refine ⟨_, rfl, ?_⟩
       have n0_ := Aside0.mk (blk_below (lb BK218.out) hb)
       have n1_ := Aside0.mk (blk_below (lb BK219.out) hb)
       have n2_ := Aside0.mk (blk_below (lb BK225.out) hb)
       have n3_ := Aside0.mk (IsS54.below (lI54 HI220.out) hb)
       have n4_ := Aside0.mk (blk_below (lb BK242.out) hb)
       have n5_ := Aside0.mk (below_step (lB HB.out) hb)
       clear BK218
       clear BK219
       clear BK225
       clear HI220
       clear BK242
       clear HB
       have BK218 := n0_
       have BK219 := n1_
       have BK225 := n2_
       have HI220 := n3_
       have BK242 := n4_
       have HB := n5_
       clear n0_ n1_ n2_ n3_ n4_ n5_
       (try clear hb)
       refine hK.out _ _ ⟨(blk_cell BK225.out 0).trans rfl, (blk_cell BK225.out 1).trans rfl⟩ (fun hHeld => ?_)
       clear hK K
       refine norm_ (a' := ?_) ?_ ?_
       rotate_left
       · show Act.put _ (some 27) _ = _
         simp only [Act.put, List.setIfInBounds_toArray, List.set_cons_zero, List.set_cons_succ, i64_w, i32_w]
         rfl
       exact norm_ (by simp only [putAll, Act.put, List.setIfInBounds_toArray, List.set_cons_zero, List.set_cons_succ]) (hCont (gb242) _ ⟨hHeld, (lb BK218.out), (lb BK219.out), (lb BK225.out), (lb BK242.out), GW242.out, GE242.out, NB220_242.out, NB242_220.out, NB218_242.out, NB242_218.out, NB219_242.out, NB242_219.out, NB225_242.out, NB242_225.out, (lI54 HI220.out), (lB HB.out)⟩)
     skip
     refine goes_ Tryz.func30 (by kernel_rfl) rfl #[.pointer (some ⟨gb220, 0, none⟩), .int .i64 3] (by rfl) rfl rfl lm ?_
     with_reducible refine (spec_l1Cur_short.calls kj3 gb220 l0 x221001_3 x221002_3 3 t236 t237 t238 t239 w _ ?side1 ?side2 A33.out).mono ?_
     (case side1 => exact lI54 HI220.out)
     (case side2 => exact lB HB.out)
     rintro e w58 ⟨rfl, hi, hb, hk⟩
     refine ⟨_, rfl, ?_⟩
     have n0_ := Aside0.mk (KeepBut.blk hk (g' := gb218) (o := .cells #[.string (⟨#[]⟩ : ByteArray), .string (⟨#[]⟩ : ByteArray)] 25 (0, 0)) (lb BK218.out) NB218_220.out (by simp))
     have n1_ := Aside0.mk (KeepBut.blk hk (g' := gb219) (o := .cells #[.string (⟨#[]⟩ : ByteArray), .string (⟨#[]⟩ : ByteArray)] 25 (0, 0)) (lb BK219.out) NB219_220.out (by simp))
     have n2_ := Aside0.mk (KeepBut.blk hk (g' := gb225) (o := .cells #[.string t221, .string t222] 25 (0, 0)) (lb BK225.out) NB225_220.out (by simp))
     have n3_ := Aside0.mk (hb)
     have n4_ := Aside0.mk (hi)
     clear BK218
     clear BK219
     clear BK225
     clear HB
     clear HI220
     have BK218 := n0_
     have BK219 := n1_
     have BK225 := n2_
     have HB := n3_
     have HI220 := n4_
     clear n0_ n1_ n2_ n3_ n4_
     (try clear hb); (try clear hk); (try clear hi)
     refine hK.out _ _ ⟨(blk_cell BK225.out 0).trans rfl, (blk_cell BK225.out 1).trans rfl⟩ (fun hHeld => ?_)
     clear hK K
     refine norm_ (a' := ?_) ?_ ?_
     rotate_left
     · show Act.put _ (some 26) _ = _
       simp only [Act.put, List.setIfInBounds_toArray, List.set_cons_zero, List.set_cons_succ, i64_w, i32_w]
       rfl
     refine two_ (i := 3) (j := 4) (Ni := some 27) (Nj := some 8) #[true, true, true, true, false, false] #[true, true, true, false, true, false] rfl rfl rfl rfl (by kernel_rfl) (by decide) (by decide) (fun K hK => ?_) (fun K hK => ?_)
     · skip
       refine goes_ Tryz.func29 (by kernel_rfl) rfl #[.agg #[.string t221, .string t222], .agg #[.string t236, .string t237]] (by rfl) rfl rfl lm ?_
       with_reducible refine (spec_cjBy.calls t221 t222 t236 t237 t240 t241 _ A34.out).mono ?_
       rintro e w59 ⟨rfl, hb⟩
       refine ⟨_, rfl, ?_⟩
       have n0_ := Aside0.mk (blk_below (lb BK218.out) hb)
       have n1_ := Aside0.mk (blk_below (lb BK219.out) hb)
       have n2_ := Aside0.mk (blk_below (lb BK225.out) hb)
       have n3_ := Aside0.mk (IsS54.below (lI54 HI220.out) hb)
       have n4_ := Aside0.mk (below_step (lB HB.out) hb)
       clear BK218
       clear BK219
       clear BK225
       clear HI220
       clear HB
       have BK218 := n0_
       have BK219 := n1_
       have BK225 := n2_
       have HI220 := n3_
       have HB := n4_
       clear n0_ n1_ n2_ n3_ n4_
       (try clear hb)
       refine hK.out _ _ ⟨(blk_cell BK225.out 0).trans rfl, (blk_cell BK225.out 1).trans rfl⟩ (fun hHeld => ?_)
       clear hK K
       refine norm_ (a' := ?_) ?_ ?_
       rotate_left
       · show Act.put _ (some 27) _ = _
         simp only [Act.put, List.setIfInBounds_toArray, List.set_cons_zero, List.set_cons_succ, i64_w, i32_w]
         rfl
       refine one_ (i := 4) (N := some 8) #[true, true, true, true, true, false] rfl rfl (by kernel_rfl) (by decide) (fun K hK => ?_)
       refine box_step ?hg (N := 8) ?hd (cs := #[.string (⟨#[]⟩ : ByteArray), .string (⟨#[]⟩ : ByteArray)]) (t := 25) ?hr ?_; (case hd => rfl); (case hg => rfl); (case hr => first | (go_simp; done) | (go_simp; rfl))
       intro gb242 hg w60 hbox hb
       have n0_ := Aside0.mk (blk_below (lb BK218.out) hb)
       have n1_ := Aside0.mk (blk_below (lb BK219.out) hb)
       have n2_ := Aside0.mk (blk_below (lb BK225.out) hb)
       have n3_ := Aside0.mk (IsS54.below (lI54 HI220.out) hb)
       have n4_ := Aside0.mk (below_step (lB HB.out) hb)
       have n5_ := Aside0.mk (hbox)
       have n6_ := gw hg (lB HB.out)
       have n7_ := gw hg (lB HB.out)
       have n8_ := na hg (lb BK218.out)
       have n9_ := nz hg (lb BK218.out)
       have n10_ := na hg (lb BK219.out)
       have n11_ := nz hg (lb BK219.out)
       have n12_ := na hg (lb BK225.out)
       have n13_ := nz hg (lb BK225.out)
       have n14_ := Aside0.mk ((by rw [hg]; exact Nat.ne_of_lt (IsS54.lt (show IsS54 w _ gb220 l0 t238 t239 from by exact lI54 HI220.out)) : gb220 ≠ gb242))
       have n15_ := Aside0.mk ((by rw [hg]; exact Nat.ne_of_gt (IsS54.lt (show IsS54 w _ gb220 l0 t238 t239 from by exact lI54 HI220.out)) : gb242 ≠ gb220))
       clear BK218
       clear BK219
       clear BK225
       clear HI220
       clear HB
       have BK218 := n0_
       have BK219 := n1_
       have BK225 := n2_
       have HI220 := n3_
       have HB := n4_
       have BK242 := n5_
       have GW242 := n6_
       have GE242 := n7_
       have NB218_242 := n8_
       have NB242_218 := n9_
       have NB219_242 := n10_
       have NB242_219 := n11_
       have NB225_242 := n12_
       have NB242_225 := n13_
       have NB220_242 := n14_
       have NB242_220 := n15_
       clear n0_ n1_ n2_ n3_ n4_ n5_ n6_ n7_ n8_ n9_ n10_ n11_ n12_ n13_ n14_ n15_
       clear hb hbox hg
       refine hK.out _ _ ⟨(blk_cell BK225.out 0).trans rfl, (blk_cell BK225.out 1).trans rfl⟩ (fun hHeld => ?_)
       clear hK K
       refine norm_ (a' := ?_) ?_ ?_
       rotate_left
       · show Act.put _ (some 8) _ = _
         simp only [Act.put, List.setIfInBounds_toArray, List.set_cons_zero, List.set_cons_succ, i64_w, i32_w]
         rfl
       exact norm_ (by simp only [putAll, Act.put, List.setIfInBounds_toArray, List.set_cons_zero, List.set_cons_succ]) (hCont (gb242) _ ⟨hHeld, (lb BK218.out), (lb BK219.out), (lb BK225.out), (lb BK242.out), GW242.out, GE242.out, NB220_242.out, NB242_220.out, NB218_242.out, NB242_218.out, NB219_242.out, NB242_219.out, NB225_242.out, NB242_225.out, (lI54 HI220.out), (lB HB.out)⟩)
     skip
     refine box_step ?hg (N := 8) ?hd (cs := #[.string (⟨#[]⟩ : ByteArray), .string (⟨#[]⟩ : ByteArray)]) (t := 25) ?hr ?_; (case hd => rfl); (case hg => rfl); (case hr => first | (go_simp; done) | (go_simp; rfl))
     intro gb242 hg w59 hbox hb
     have n0_ := Aside0.mk (blk_below (lb BK218.out) hb)
     have n1_ := Aside0.mk (blk_below (lb BK219.out) hb)
     have n2_ := Aside0.mk (blk_below (lb BK225.out) hb)
     have n3_ := Aside0.mk (IsS54.below (lI54 HI220.out) hb)
     have n4_ := Aside0.mk (below_step (lB HB.out) hb)
     have n5_ := Aside0.mk (hbox)
     have n6_ := gw hg (lB HB.out)
     have n7_ := gw hg (lB HB.out)
     have n8_ := na hg (lb BK218.out)
     have n9_ := nz hg (lb BK218.out)
     have n10_ := na hg (lb BK219.out)
     have n11_ := nz hg (lb BK219.out)
     have n12_ := na hg (lb BK225.out)
     have n13_ := nz hg (lb BK225.out)
     have n14_ := Aside0.mk ((by rw [hg]; exact Nat.ne_of_lt (IsS54.lt (show IsS54 w _ gb220 l0 t238 t239 from by exact lI54 HI220.out)) : gb220 ≠ gb242))
     have n15_ := Aside0.mk ((by rw [hg]; exact Nat.ne_of_gt (IsS54.lt (show IsS54 w _ gb220 l0 t238 t239 from by exact lI54 HI220.out)) : gb242 ≠ gb220))
     clear BK218
     clear BK219
     clear BK225
     clear HI220
     clear HB
     have BK218 := n0_
     have BK219 := n1_
     have BK225 := n2_
     have HI220 := n3_
     have HB := n4_
     have BK242 := n5_
     have GW242 := n6_
     have GE242 := n7_
     have NB218_242 := n8_
     have NB242_218 := n9_
     have NB219_242 := n10_
     have NB242_219 := n11_
     have NB225_242 := n12_
     have NB242_225 := n13_
     have NB220_242 := n14_
     have NB242_220 := n15_
     clear n0_ n1_ n2_ n3_ n4_ n5_ n6_ n7_ n8_ n9_ n10_ n11_ n12_ n13_ n14_ n15_
     clear hb hbox hg
     refine hK.out _ _ ⟨(blk_cell BK225.out 0).trans rfl, (blk_cell BK225.out 1).trans rfl⟩ (fun hHeld => ?_)
     clear hK K
     refine norm_ (a' := ?_) ?_ ?_
     rotate_left
     · show Act.put _ (some 8) _ = _
       simp only [Act.put, List.setIfInBounds_toArray, List.set_cons_zero, List.set_cons_succ, i64_w, i32_w]
       rfl
     refine one_ (i := 3) (N := some 27) #[true, true, true, true, true, false] rfl rfl (by kernel_rfl) (by decide) (fun K hK => ?_)
     refine goes_ Tryz.func29 (by kernel_rfl) rfl #[.agg #[.string t221, .string t222], .agg #[.string t236, .string t237]] (by rfl) rfl rfl lm ?_
     with_reducible refine (spec_cjBy.calls t221 t222 t236 t237 t240 t241 _ A34.out).mono ?_
     rintro e w60 ⟨rfl, hb⟩
     refine ⟨_, rfl, ?_⟩
     have n0_ := Aside0.mk (blk_below (lb BK218.out) hb)
     have n1_ := Aside0.mk (blk_below (lb BK219.out) hb)
     have n2_ := Aside0.mk (blk_below (lb BK225.out) hb)
     have n3_ := Aside0.mk (IsS54.below (lI54 HI220.out) hb)
     have n4_ := Aside0.mk (blk_below (lb BK242.out) hb)
     have n5_ := Aside0.mk (below_step (lB HB.out) hb)
     clear BK218
     clear BK219
     clear BK225
     clear HI220
     clear BK242
     clear HB
     have BK218 := n0_
     have BK219 := n1_
     have BK225 := n2_
     have HI220 := n3_
     have BK242 := n4_
     have HB := n5_
     clear n0_ n1_ n2_ n3_ n4_ n5_
     (try clear hb)
     refine hK.out _ _ ⟨(blk_cell BK225.out 0).trans rfl, (blk_cell BK225.out 1).trans rfl⟩ (fun hHeld => ?_)
     clear hK K
     refine norm_ (a' := ?_) ?_ ?_
     rotate_left
     · show Act.put _ (some 27) _ = _
       simp only [Act.put, List.setIfInBounds_toArray, List.set_cons_zero, List.set_cons_succ, i64_w, i32_w]
       rfl
     exact norm_ (by simp only [putAll, Act.put, List.setIfInBounds_toArray, List.set_cons_zero, List.set_cons_succ]) (hCont (gb242) _ ⟨hHeld, (lb BK218.out), (lb BK219.out), (lb BK225.out), (lb BK242.out), GW242.out, GE242.out, NB220_242.out, NB242_220.out, NB218_242.out, NB242_218.out, NB219_242.out, NB242_219.out, NB225_242.out, NB242_225.out, (lI54 HI220.out), (lB HB.out)⟩)
   rintro gb242 w61 ⟨hS_, h0_, h1_, h2_, h3_, h4_, h5_, h6_, h7_, h8_, h9_, h10_, h11_, h12_, h13_, h14_, h15_⟩
   have n0_ : Aside0 (w61.heap[gb218]? = some (.cells #[.string (⟨#[]⟩ : ByteArray), .string (⟨#[]⟩ : ByteArray)] 25 (0, 0))) := ⟨h0_⟩
   have n1_ : Aside0 (w61.heap[gb219]? = some (.cells #[.string (⟨#[]⟩ : ByteArray), .string (⟨#[]⟩ : ByteArray)] 25 (0, 0))) := ⟨h1_⟩
   have n2_ : Aside0 (w61.heap[gb225]? = some (.cells #[.string t221, .string t222] 25 (0, 0))) := ⟨h2_⟩
   have n3_ : Aside0 (w61.heap[gb242]? = some (.cells #[.string (⟨#[]⟩ : ByteArray), .string (⟨#[]⟩ : ByteArray)] 25 (0, 0))) := ⟨h3_⟩
   have n4_ : Aside0 (w.heap.size ≤ gb242) := ⟨h4_⟩
   have n5_ : Aside0 (w.heap.size ≤ gb242) := ⟨h5_⟩
   have n6_ : Aside0 (gb220 ≠ gb242) := ⟨h6_⟩
   have n7_ : Aside0 (gb242 ≠ gb220) := ⟨h7_⟩
   have n8_ : Aside0 (gb218 ≠ gb242) := ⟨h8_⟩
   have n9_ : Aside0 (gb242 ≠ gb218) := ⟨h9_⟩
   have n10_ : Aside0 (gb219 ≠ gb242) := ⟨h10_⟩
   have n11_ : Aside0 (gb242 ≠ gb219) := ⟨h11_⟩
   have n12_ : Aside0 (gb225 ≠ gb242) := ⟨h12_⟩
   have n13_ : Aside0 (gb242 ≠ gb225) := ⟨h13_⟩
   have n14_ : Aside0 (IsS54 w w61 gb220 l0 t238 t239) := ⟨h14_⟩
   have n15_ : Aside0 (Below w.heap.size w w61) := ⟨h15_⟩
   clear BK218
   clear BK219
   clear BK225
   clear HI220
   clear HB
   clear h0_ h1_ h2_ h3_ h4_ h5_ h6_ h7_ h8_ h9_ h10_ h11_ h12_ h13_ h14_ h15_
   have BK218 := n0_
   have BK219 := n1_
   have BK225 := n2_
   have BK242 := n3_
   have GW242 := n4_
   have GE242 := n5_
   have NB220_242 := n6_
   have NB242_220 := n7_
   have NB218_242 := n8_
   have NB242_218 := n9_
   have NB219_242 := n10_
   have NB242_219 := n11_
   have NB225_242 := n12_
   have NB242_225 := n13_
   have HI220 := n14_
   have HB := n15_
   clear n0_ n1_ n2_ n3_ n4_ n5_ n6_ n7_ n8_ n9_ n10_ n11_ n12_ n13_ n14_ n15_
   have hHeld : w61.cell? ⟨gb225, 0, none⟩ = some (.string t221) ∧ w61.cell? ⟨gb225, 1, none⟩ = some (.string t222) := hS_
   refine norm_ (a' := ?_) ?_ ?_
   rotate_left
   · simp only [putAll, Act.put, List.setIfInBounds_toArray, List.set_cons_zero, List.set_cons_succ]
     rfl
   refine one_ (i := 5) (N := none) #[true, true, true, true, true, true] rfl rfl (by kernel_rfl) (by decide) (fun K hK => ?_)
   have hs62 : w61.cell? ⟨gb242, 0, none⟩ = some (.string (⟨#[]⟩ : ByteArray)) := (blk_cell BK242.out 0).trans rfl
   have hfs62 := blk_frozen BK242.out 0
   have hns62_0 := NB218_242.out
   have hns62_1 := NB219_242.out
   have hns62_2 := NB225_242.out
   have hms62_0 := NB242_218.out
   have hms62_1 := NB242_219.out
   have hms62_2 := NB242_225.out
   have hs63 : w61.cell? ⟨gb242, 1, none⟩ = some (.string (⟨#[]⟩ : ByteArray)) := (blk_cell BK242.out 1).trans rfl
   have hfs63 := blk_frozen BK242.out 1
   have hns63_0 := NB218_242.out
   have hns63_1 := NB219_242.out
   have hns63_2 := NB225_242.out
   have hms63_0 := NB242_218.out
   have hms63_1 := NB242_219.out
   have hms63_2 := NB242_225.out
   refine skip_ (w1 := ?_) (by rfl) rfl ?_ ?_
   rotate_left
   · go_simp
     rfl
   refine hK.out _ _ ⟨((cell_far (p := ⟨gb242, _, none⟩) NB225_242.out _).trans (((cell_far (p := ⟨gb242, _, none⟩) NB225_242.out _).trans (hHeld.1)))), ((cell_far (p := ⟨gb242, _, none⟩) NB225_242.out _).trans (((cell_far (p := ⟨gb242, _, none⟩) NB225_242.out _).trans (hHeld.2))))⟩ (fun hHeld => ?_)
   clear hK K
   refine done_ (by kernel_rfl) ?_
   have hnb64 := NB242_218.out
   have hnc64 := NB218_242.out
   have hnb65 := NB242_219.out
   have hnc65 := NB219_242.out
   have hnb66 := NB242_225.out
   have hnc66 := NB225_242.out
   have hnb67 := NB242_220.out
   have hnc67 := NB220_242.out
   have hcz68_0 : w61.cell? ⟨gb242, 0, none⟩ = some (.string (⟨#[]⟩ : ByteArray)) := (blk_cell BK242.out 0).trans rfl
   have hcz68_1 : w61.cell? ⟨gb242, 1, none⟩ = some (.string (⟨#[]⟩ : ByteArray)) := (blk_cell BK242.out 1).trans rfl
   have hfz68_0 := blk_frozen BK242.out 0
   have hfz68_1 := blk_frozen BK242.out 1
   try go_wp2_with (first | ((with_reducible refine gate_callee (f := 27) rfl ?_); refine goesL_ (some 29) rfl rfl Tryz.func27 (by kernel_rfl) rfl #[.agg #[.string t240, .string t241]] rfl lm ?_; (with_reducible refine (spec_prGood.calls t240 t241 false _ A35.out).mono ?_); rintro e w69 ⟨rfl, hb⟩; refine ⟨_, rfl, ?_⟩; have n0_ := Aside0.mk (blk_below (g := gb218) (o := .cells #[.string (⟨#[]⟩ : ByteArray), .string (⟨#[]⟩ : ByteArray)] 25 (0, 0)) (by (with_reducible repeat (first | refine blk_drewN ?_ _ | refine blk_drew ?_ | refine blk_alloc ?_ _)); refine blk_far ?_ NB218_242.out _; (with_reducible repeat (first | refine blk_drewN ?_ _ | refine blk_drew ?_ | refine blk_alloc ?_ _)); refine blk_far ?_ NB218_242.out _; exact lb BK218.out) hb); have n1_ := Aside0.mk (blk_below (g := gb219) (o := .cells #[.string (⟨#[]⟩ : ByteArray), .string (⟨#[]⟩ : ByteArray)] 25 (0, 0)) (by (with_reducible repeat (first | refine blk_drewN ?_ _ | refine blk_drew ?_ | refine blk_alloc ?_ _)); refine blk_far ?_ NB219_242.out _; (with_reducible repeat (first | refine blk_drewN ?_ _ | refine blk_drew ?_ | refine blk_alloc ?_ _)); refine blk_far ?_ NB219_242.out _; exact lb BK219.out) hb); have n2_ := Aside0.mk (blk_below (g := gb225) (o := .cells #[.string t221, .string t222] 25 (0, 0)) (by (with_reducible repeat (first | refine blk_drewN ?_ _ | refine blk_drew ?_ | refine blk_alloc ?_ _)); refine blk_far ?_ NB225_242.out _; (with_reducible repeat (first | refine blk_drewN ?_ _ | refine blk_drew ?_ | refine blk_alloc ?_ _)); refine blk_far ?_ NB225_242.out _; exact lb BK225.out) hb); have n3_ := Aside0.mk (IsS54.below (show IsS54 w ((w61.setCell ⟨gb242, 0, none⟩ (.string t240)).setCell ⟨gb242, 1, none⟩ (.string t241)) gb220 l0 t238 t239 from by exact lI54 HI220.out) hb); have n4_ := Aside0.mk (blk_below (g := gb242) (o := .cells #[.string t240, .string t241] 25 (0, 0)) (by (with_reducible repeat (first | refine blk_drewN ?_ _ | refine blk_drew ?_ | refine blk_alloc ?_ _)); refine blk_put (cs := #[.string t240, .string (⟨#[]⟩ : ByteArray)]) ?_ 1 _ rfl; (with_reducible repeat (first | refine blk_drewN ?_ _ | refine blk_drew ?_ | refine blk_alloc ?_ _)); refine blk_put (cs := #[.string (⟨#[]⟩ : ByteArray), .string (⟨#[]⟩ : ByteArray)]) ?_ 0 _ rfl; exact lb BK242.out) hb); have n5_ := Aside0.mk (below_step (lB HB.out) hb); clear BK218 BK219 BK225 HI220 BK242 HB; have BK218 := n0_; have BK219 := n1_; have BK225 := n2_; have HI220 := n3_; have BK242 := n4_; have HB := n5_; clear n0_ n1_ n2_ n3_ n4_ n5_; (try clear hb); (try clear hb2); (try clear hk); (try clear hi)))
   have n0_ := Aside0.mk (blk_drew BK218.out)
   have n1_ := Aside0.mk (blk_drew BK219.out)
   have n2_ := Aside0.mk (blk_drew BK225.out)
   have n3_ := Aside0.mk (blk_drew BK242.out)
   have n4_ := Aside0.mk (IsS54.drew HI220.out)
   have n5_ := Aside0.mk (below_drew1 HB.out)
   clear BK218
   clear BK219
   clear BK225
   clear BK242
   clear HI220
   clear HB
   have BK218 := n0_
   have BK219 := n1_
   have BK225 := n2_
   have BK242 := n3_
   have HI220 := n4_
   have HB := n5_
   clear n0_ n1_ n2_ n3_ n4_ n5_
   refine start_ (n := 9) (S := fun w' => True) (ds := []) #[false, false, false, false, false, false, false, false, false] (by kernel_rfl) rfl rfl trivial (fun hHeld => ?_); refine with_tabW spec_DrawFindConjugator.tab8 spec_DrawFindConjugator.bits8 (fun HT_ HW_ => ?_)
   generalize w69.drew = w70 at BK218 BK219 BK225 BK242 HI220 HB hHeld ⊢
   refine pure_ (i := 1) (N := some 34) (v := ?_) (a' := ?_) #[false, true, false, false, false, false, false, false, false] rfl rfl (any_of HT_.out (by kernel_rfl)) (fun _ _ _ h => h) (Or.inl ⟨by rfl, ?_⟩) ?_ ?_
   rotate_left
   · intro w'
     go_simp
     with_reducible rfl
   rotate_left
   · simp only [Act.put, List.setIfInBounds_toArray, List.set_cons_zero, List.set_cons_succ, i64_w, i32_w]
     rfl
   refine pure_ (i := 3) (N := some 36) (v := ?_) (a' := ?_) #[false, true, false, true, false, false, false, false, false] rfl rfl (any_of HT_.out (by kernel_rfl)) (fun _ _ _ h => h) (Or.inl ⟨by rfl, ?_⟩) ?_ ?_
   rotate_left
   · intro w'
     go_simp
     with_reducible rfl
   rotate_left
   · simp only [Act.put, List.setIfInBounds_toArray, List.set_cons_zero, List.set_cons_succ, i64_w, i32_w]
     rfl
   refine inv_at [0, 2, 4, 5, 6, 7, 8] (fun a0_ b a w' => ∃ (v249 : Value), a = putSel a0_ b [(0, 33, .agg #[.string t221, .string t222]), (2, 35, .agg #[.string t244, .string t245]), (4, 37, v249), (5, 38, .int .i64 t251), (8, 4, .int .i64 t251)] ∧ (b 6 = false → w'.heap[gb218]? = some (.cells #[.string (⟨#[]⟩ : ByteArray), .string (⟨#[]⟩ : ByteArray)] 25 (0, 0))) ∧ (b 7 = false → w'.heap[gb219]? = some (.cells #[.string (⟨#[]⟩ : ByteArray), .string (⟨#[]⟩ : ByteArray)] 25 (0, 0))) ∧ (w'.heap[gb225]? = some (.cells #[.string t221, .string t222] 25 (0, 0))) ∧ (w'.heap[gb242]? = some (.cells #[.string t240, .string t241] 25 (0, 0))) ∧ (b 2 = false → IsS54 w w' gb220 l0 t238 t239) ∧ (Below w.heap.size w w') ∧ (b 2 = true → b 5 = false → IsS54 w w' gb220 l0 t246 t247) ∧ (b 4 = true → Kd.R (Kd.int .i64) 3 w' w.heap.size (fun _ => True) v249 y248) ∧ (b 5 = true → IsS54 w w' gb220 l0 t252 t253) ∧ (b 6 = true → w'.heap[gb218]? = some (.cells #[.string t221, .string t222] 25 (0, 0))) ∧ (b 7 = true → w'.heap[gb219]? = some (.cells #[.string t244, .string t245] 25 (0, 0)))) HT_.out HW_.out (by kernel_rfl) (by kernel_rfl) ?_ ?_ ?_
   · exact ⟨.bool false, by simp only [putSel, Bool.false_eq_true, if_false], fun _ => BK218.out, fun _ => BK219.out, BK225.out, BK242.out, fun _ => HI220.out, HB.out, fun h_ => absurd h_ (by decide), fun h_ => absurd h_ (by decide), fun h_ => absurd h_ (by decide), fun h_ => absurd h_ (by decide), fun h_ => absurd h_ (by decide)⟩
   · skip
     clear BK218 BK219 BK225 BK242 HB HI220
     refine steps_cons ?_ ?_
     · rintro b a w' ⟨v249, ha, Q_BK218, Q_BK219, Q_BK225, Q_BK242, Q_HI220, Q_HB, Q_HI220_e2, Q_HO250, Q_HI220_e5, Q_BK218_e6, Q_BK219_e7⟩ hb_ hon hoff
       refine ⟨_, rfl, fun K hK => ?_⟩
       have e6 : a.tmps[6]? = some (.pointer (some ⟨gb225, 0, none⟩)) := by rw [ha]; exact (putSel_off rfl).trans rfl
       replace ha := Aside0.mk ha
       have BK218 := Aside0.mk (Q_BK218 (hoff 6 (by kernel_rfl)))
       have BK219 := Aside0.mk (Q_BK219 (hoff 7 (by kernel_rfl)))
       have BK225 := Aside0.mk Q_BK225
       have BK242 := Aside0.mk Q_BK242
       have HB := Aside0.mk Q_HB
       have hc0_ : w'.cell? ⟨gb225, 0, none⟩ = some (.string t221) := (blk_cell BK225.out 0).trans rfl
       have hc1_ : w'.cell? ⟨gb225, 1, none⟩ = some (.string t222) := (blk_cell BK225.out 1).trans rfl
       refine value_ (w1 := w') (v := .agg #[.string t221, .string t222]) (by rfl) rfl ?_ ?_
       · go_simp
         (try simp only [i64_w])
         try rfl
       refine hK.out _ _ ⟨v249, (by rw [ha.out]; exact putSel_upk 0 hb_ rfl rfl rfl), Q_BK218, Q_BK219, Q_BK225, Q_BK242, Q_HI220, Q_HB, Q_HI220_e2, Q_HO250, Q_HI220_e5, fun h0_ => absurd ((hoff 6 (by kernel_rfl)).symm.trans h0_) (by decide), fun h0_ => absurd ((hoff 7 (by kernel_rfl)).symm.trans h0_) (by decide)⟩
     refine steps_cons ?_ ?_
     · rintro b a w' ⟨v249, ha, Q_BK218, Q_BK219, Q_BK225, Q_BK242, Q_HI220, Q_HB, Q_HI220_e2, Q_HO250, Q_HI220_e5, Q_BK218_e6, Q_BK219_e7⟩ hb_ hon hoff
       refine ⟨_, rfl, fun K hK => ?_⟩
       have e34 : a.tmps[34]? = some (.pointer (some ⟨gb220, 0, none⟩)) := by rw [ha]; exact (putSel_off rfl).trans rfl
       replace ha := Aside0.mk ha
       have BK218 := Aside0.mk (Q_BK218 (hoff 6 (by kernel_rfl)))
       have BK219 := Aside0.mk (Q_BK219 (hoff 7 (by kernel_rfl)))
       have BK225 := Aside0.mk Q_BK225
       have BK242 := Aside0.mk Q_BK242
       have HI220 := Aside0.mk (Q_HI220 hb_)
       have HB := Aside0.mk Q_HB
       refine goes_ Tryz.func25 (by kernel_rfl) rfl #[.pointer (some ⟨gb220, 0, none⟩), .int .i64 3] (by rfl) rfl rfl (by first | (simp only [List.map_toArray, List.map_cons, List.map_nil, Act.eval, Array.getD_eq_getD_getElem?, Option.getD_some, e34]; done) | (simp only [List.map_toArray, List.map_cons, List.map_nil, Act.eval, Array.getD_eq_getD_getElem?, Option.getD_some, e34]; rfl)) ?_
       with_reducible refine (spec_l1Cur_pair.calls kj3 gb220 l0 t238 t239 3 t244 t245 t246 t247 w _ ?side1 ?side2 A55.out).mono ?_
       (case side1 => exact lI54 HI220.out)
       (case side2 => exact lB HB.out)
       rintro e w71 ⟨rfl, hi, hb, hk⟩
       refine ⟨_, rfl, ?_⟩
       have n0_ := Aside0.mk (KeepBut.blk hk (g' := gb218) (o := .cells #[.string (⟨#[]⟩ : ByteArray), .string (⟨#[]⟩ : ByteArray)] 25 (0, 0)) (lb BK218.out) NB218_220.out (by simp))
       have n1_ := Aside0.mk (KeepBut.blk hk (g' := gb219) (o := .cells #[.string (⟨#[]⟩ : ByteArray), .string (⟨#[]⟩ : ByteArray)] 25 (0, 0)) (lb BK219.out) NB219_220.out (by simp))
       have n2_ := Aside0.mk (KeepBut.blk hk (g' := gb225) (o := .cells #[.string t221, .string t222] 25 (0, 0)) (lb BK225.out) NB225_220.out (by simp))
       have n3_ := Aside0.mk (KeepBut.blk hk (g' := gb242) (o := .cells #[.string t240, .string t241] 25 (0, 0)) (lb BK242.out) NB242_220.out (by simp))
       have n4_ := Aside0.mk (hb)
       have n5_ := Aside0.mk (hi)
       have z_HO250 := fun (h0_ : b 4 = true) => (show Kd.R (Kd.int .i64) 3 w71 w.heap.size (fun _ => True) v249 y248 from by first | exact (Kd.R_mono (Kd.R_keep (IsS54.apart (show IsS54 w _ gb220 l0 t238 t239 from by exact lI54 HI220.out) (by (with_reducible repeat (first | apply Kd.R_alloc | apply Kd.R_drewN | apply Kd.R_drew)); exact (Q_HO250 h0_)) (by decide)) hk (fun _ h => h.2)) (fun _ h => h.1)) | exact Kd.R_mono (Kd.R_mono (Kd.R_keep (IsS54.apart (show IsS54 w _ gb220 l0 t238 t239 from by exact lI54 HI220.out) (by (with_reducible repeat (first | apply Kd.R_alloc | apply Kd.R_drewN | apply Kd.R_drew)); exact (Q_HO250 h0_)) (by decide)) hk (fun _ h => h.2)) (fun _ h => h.1)) (fun _ h_ => by first | trivial | exact h_ | exact h_.1))
       clear BK218
       clear BK219
       clear BK225
       clear BK242
       clear HB
       clear HI220
       have BK218 := n0_
       have BK219 := n1_
       have BK225 := n2_
       have BK242 := n3_
       have HB := n4_
       have HI220 := n5_
       clear n0_ n1_ n2_ n3_ n4_ n5_
       (try clear hb); (try clear hb2); (try clear hk); (try clear hi)
       refine hK.out _ _ ⟨v249, (by rw [ha.out]; exact putSel_upk 1 hb_ rfl rfl rfl), fun _ => (lb BK218.out), fun _ => (lb BK219.out), (lb BK225.out), (lb BK242.out), fun h0_ => absurd ((up_self b 2).symm.trans h0_) (by decide), (lB HB.out), fun _ _ => (lI54 HI220.out), z_HO250, fun h0_ => absurd ((hoff 5 (by kernel_rfl)).symm.trans h0_) (by decide), fun h0_ => absurd ((hoff 6 (by kernel_rfl)).symm.trans h0_) (by decide), fun h0_ => absurd ((hoff 7 (by kernel_rfl)).symm.trans h0_) (by decide)⟩
     refine steps_cons ?_ ?_
     · rintro b a w' ⟨v249, ha, Q_BK218, Q_BK219, Q_BK225, Q_BK242, Q_HI220, Q_HB, Q_HI220_e2, Q_HO250, Q_HI220_e5, Q_BK218_e6, Q_BK219_e7⟩ hb_ hon hoff
       refine ⟨_, rfl, fun K hK => ?_⟩
       replace ha := Aside0.mk ha
       have BK218 := Aside0.mk (Q_BK218 (hoff 6 (by kernel_rfl)))
       have BK219 := Aside0.mk (Q_BK219 (hoff 7 (by kernel_rfl)))
       have BK225 := Aside0.mk Q_BK225
       have BK242 := Aside0.mk Q_BK242
       have HB := Aside0.mk Q_HB
       refine Kd.R_lit_step (Kd.int .i64) _ 3 ?hg (N := 37) ?hd (xs := ([0, 1, 2] : List Int)) (inner := [.int .i64 0, .int .i64 1, .int .i64 2]) (ok := fun _ => True) (okp := fun _ => True) ?hr ?hp (fun _ hk => hk) trivial (Below.refl _ _) (Nat.le_refl _) (by simp) ?_; (case hd => rfl); (case hg => rfl); (case hr => exact lr); (case hp => exact (Reps.one (show Kd.M (Kd.int .i64) _ _ _ 0 [.int .i64 0] from rfl) (Reps.one (show Kd.M (Kd.int .i64) _ _ _ 1 [.int .i64 1] from rfl) (Reps.one (show Kd.M (Kd.int .i64) _ _ _ 2 [.int .i64 2] from rfl) (Reps.none _ _)))))
       intro v249 w71 ho72 hb hg_ hnew_
       clear hg_ hnew_
       (first | rw [← Ny248.out] at ho72 | (simp only [Int.reduceToNat] at ho72; rw [← Ny248.out] at ho72))
       have n0_ := Aside0.mk (Kd.R_lower ho72 (below_size (lB HB.out)))
       have n1_ := Aside0.mk (blk_below (lb BK218.out) hb)
       have n2_ := Aside0.mk (blk_below (lb BK219.out) hb)
       have n3_ := Aside0.mk (blk_below (lb BK225.out) hb)
       have n5_ := Aside0.mk (blk_below (lb BK242.out) hb)
       have n6_ := Aside0.mk (below_step (lB HB.out) hb)
       have z_HI220 := fun (h0_ : b 2 = false) => (show IsS54 w w71 gb220 l0 t238 t239 from by first | exact (IsS54.below (by repeat (first | (with_reducible first | exact (Q_HI220 h0_) | apply IsS54.alloc | apply IsS54.drewN | apply IsS54.drew | apply IsS54.set_1 | apply IsS54.set_2 | refine IsS54.far ?_ NB220_218.out _ | refine IsS54.far ?_ NB220_219.out _ | refine IsS54.far ?_ NB220_225.out _ | refine IsS54.far ?_ NB220_242.out _) | exact (Q_HI220 h0_))) hb))
       have z_HI220_e2 := fun (h0_ : b 2 = true) (h1_ : b 5 = false) => (show IsS54 w w71 gb220 l0 t246 t247 from by first | exact (IsS54.below (by repeat (first | (with_reducible first | exact (Q_HI220_e2 h0_ h1_) | apply IsS54.alloc | apply IsS54.drewN | apply IsS54.drew | apply IsS54.set_1 | apply IsS54.set_2 | refine IsS54.far ?_ NB220_218.out _ | refine IsS54.far ?_ NB220_219.out _ | refine IsS54.far ?_ NB220_225.out _ | refine IsS54.far ?_ NB220_242.out _) | exact (Q_HI220_e2 h0_ h1_))) hb))
       clear BK218
       clear BK219
       clear BK225
       clear BK242
       clear HB
       have HO250 := n0_
       have BK218 := n1_
       have BK219 := n2_
       have BK225 := n3_
       have BK242 := n5_
       have HB := n6_
       clear n0_ n1_ n2_ n3_ n5_ n6_
       clear hb ho72
       refine hK.out _ _ ⟨v249, (by rw [ha.out]; exact putSel_upk 2 hb_ rfl rfl rfl), fun _ => (lb BK218.out), fun _ => (lb BK219.out), (lb BK225.out), (lb BK242.out), z_HI220, (lB HB.out), z_HI220_e2, fun _ => (by (with_reducible repeat (first | apply Kd.R_alloc | apply Kd.R_drewN | apply Kd.R_drew)); exact HO250.out), fun h0_ => absurd ((hoff 5 (by kernel_rfl)).symm.trans h0_) (by decide), fun h0_ => absurd ((hoff 6 (by kernel_rfl)).symm.trans h0_) (by decide), fun h0_ => absurd ((hoff 7 (by kernel_rfl)).symm.trans h0_) (by decide)⟩
     refine steps_cons ?_ ?_
     · rintro b a w' ⟨v249, ha, Q_BK218, Q_BK219, Q_BK225, Q_BK242, Q_HI220, Q_HB, Q_HI220_e2, Q_HO250, Q_HI220_e5, Q_BK218_e6, Q_BK219_e7⟩ hb_ hon hoff
       refine ⟨_, rfl, fun K hK => ?_⟩
       have e36 : a.tmps[36]? = some (.pointer (some ⟨gb220, 0, none⟩)) := by rw [ha]; exact (putSel_off rfl).trans rfl
       have e37 : a.tmps[37]? = some (v249) := by rw [ha]; exact putSel_on (e := (4, 37, v249)) 2 rfl rfl (hon 4 (by kernel_rfl)) rfl
       replace ha := Aside0.mk ha
       have BK218 := Aside0.mk (Q_BK218 (hoff 6 (by kernel_rfl)))
       have BK219 := Aside0.mk (Q_BK219 (hoff 7 (by kernel_rfl)))
       have BK225 := Aside0.mk Q_BK225
       have BK242 := Aside0.mk Q_BK242
       have HB := Aside0.mk Q_HB
       have HI220 := Aside0.mk (Q_HI220_e2 (hon 2 (by kernel_rfl)) hb_)
       have HO250 := Aside0.mk (Q_HO250 (hon 4 (by kernel_rfl)))
       obtain ⟨Ao75, co75, eo75⟩ := Kd.R_slice HO250.out
       (first | subst eo75 | (injection eo75 with f1_ f2_ f3_; have f4_ := f1_.symm; have f5_ := f3_.symm; clear f1_ f2_ f3_; subst f4_; subst f5_))
       refine goes_ Tryz.func26 (by kernel_rfl) rfl #[.pointer (some ⟨gb220, 0, none⟩), .slice Ao75 y248.length co75] (by rfl) rfl rfl (by first | (simp only [List.map_toArray, List.map_cons, List.map_nil, Act.eval, Array.getD_eq_getD_getElem?, Option.getD_some, e36, e37]; done) | (simp only [List.map_toArray, List.map_cons, List.map_nil, Act.eval, Array.getD_eq_getD_getElem?, Option.getD_some, e36, e37]; rfl)) ?_
       with_reducible refine (spec_l1Cur_among.calls gb220 l0 t246 t247 _ _ y248 t251 t252 t253 w _ ?side1 ?side2 ?side3 ?side4 ?side5 A56.out).mono ?_
       (case side1 => exact lI54 HI220.out)
       (case side2 => exact lB HB.out)
       (case side3 => repeat (first | exact (Kd.R_reads' HO250.out).2.2 | (with_reducible refine Kd.C_alloc ?_ _) | (with_reducible refine Kd.C_drewN ?_ _) | (with_reducible refine Kd.C_drew ?_)))
       (case side4 => exact (Kd.R_reads' HO250.out).2.1)
       (case side5 => exact far_slice (IsS54.own_ne HI220.out HO250.out (by decide)))
       rintro e w76 ⟨rfl, hi, hb, hk⟩
       refine ⟨_, rfl, ?_⟩
       have n0_ := Aside0.mk (KeepBut.blk hk (g' := gb218) (o := .cells #[.string (⟨#[]⟩ : ByteArray), .string (⟨#[]⟩ : ByteArray)] 25 (0, 0)) (lb BK218.out) NB218_220.out (by simp))
       have n1_ := Aside0.mk (KeepBut.blk hk (g' := gb219) (o := .cells #[.string (⟨#[]⟩ : ByteArray), .string (⟨#[]⟩ : ByteArray)] 25 (0, 0)) (lb BK219.out) NB219_220.out (by simp))
       have n2_ := Aside0.mk (KeepBut.blk hk (g' := gb225) (o := .cells #[.string t221, .string t222] 25 (0, 0)) (lb BK225.out) NB225_220.out (by simp))
       have n3_ := Aside0.mk (KeepBut.blk hk (g' := gb242) (o := .cells #[.string t240, .string t241] 25 (0, 0)) (lb BK242.out) NB242_220.out (by simp))
       have n4_ := Aside0.mk (Kd.R_mono (Kd.R_keep (IsS54.apart (show IsS54 w _ gb220 l0 t246 t247 from by exact lI54 HI220.out) (by (with_reducible repeat (first | apply Kd.R_alloc | apply Kd.R_drewN | apply Kd.R_drew)); exact HO250.out) (by decide)) hk (fun _ h => h.2)) (fun _ h => h.1))
       have n5_ := Aside0.mk (hb)
       have n6_ := Aside0.mk (hi)
       clear BK218
       clear BK219
       clear BK225
       clear BK242
       clear HO250
       clear HB
       clear HI220
       have BK218 := n0_
       have BK219 := n1_
       have BK225 := n2_
       have BK242 := n3_
       have HO250 := n4_
       have HB := n5_
       have HI220 := n6_
       clear n0_ n1_ n2_ n3_ n4_ n5_ n6_
       (try clear hb); (try clear hk); (try clear hi)
       refine hK.out _ _ ⟨.slice Ao75 y248.length co75, (by rw [ha.out]; exact putSel_upk 3 hb_ rfl rfl rfl), fun _ => (lb BK218.out), fun _ => (lb BK219.out), (lb BK225.out), (lb BK242.out), fun h0_ => absurd ((hon 2 (by kernel_rfl)).symm.trans h0_) (by decide), (lB HB.out), fun _ h1_ => absurd ((up_self b 5).symm.trans h1_) (by decide), fun _ => (by (with_reducible repeat (first | apply Kd.R_alloc | apply Kd.R_drewN | apply Kd.R_drew)); exact HO250.out), fun _ => (lI54 HI220.out), fun h0_ => absurd ((hoff 6 (by kernel_rfl)).symm.trans h0_) (by decide), fun h0_ => absurd ((hoff 7 (by kernel_rfl)).symm.trans h0_) (by decide)⟩
     refine steps_cons ?_ ?_
     · rintro b a w' ⟨v249, ha, Q_BK218, Q_BK219, Q_BK225, Q_BK242, Q_HI220, Q_HB, Q_HI220_e2, Q_HO250, Q_HI220_e5, Q_BK218_e6, Q_BK219_e7⟩ hb_ hon hoff
       refine ⟨_, rfl, fun K hK => ?_⟩
       have e2 : a.tmps[2]? = some (.pointer (some ⟨gb218, 0, none⟩)) := by rw [ha]; exact (putSel_off rfl).trans rfl
       have e33 : a.tmps[33]? = some (.agg #[.string t221, .string t222]) := by rw [ha]; exact putSel_on (e := (0, 33, .agg #[.string t221, .string t222])) 0 rfl rfl (hon 0 (by kernel_rfl)) rfl
       replace ha := Aside0.mk ha
       have BK218 := Aside0.mk (Q_BK218 hb_)
       have BK219 := Aside0.mk (Q_BK219 (hoff 7 (by kernel_rfl)))
       have BK225 := Aside0.mk Q_BK225
       have BK242 := Aside0.mk Q_BK242
       have HB := Aside0.mk Q_HB
       have HO250 := Aside0.mk (Q_HO250 (hon 4 (by kernel_rfl)))
       have HI220 := Aside0.mk (Q_HI220_e5 (hon 5 (by kernel_rfl)))
       have hs77 : w'.cell? ⟨gb218, 0, none⟩ = some (.string (⟨#[]⟩ : ByteArray)) := (blk_cell BK218.out 0).trans rfl
       have hfs77 := blk_frozen BK218.out 0
       have hns77_1 := NB219_218.out
       have hns77_2 := NB225_218.out
       have hns77_3 := NB242_218.out
       have hms77_1 := NB218_219.out
       have hms77_2 := NB218_225.out
       have hms77_3 := NB218_242.out
       have hs78 : w'.cell? ⟨gb218, 1, none⟩ = some (.string (⟨#[]⟩ : ByteArray)) := (blk_cell BK218.out 1).trans rfl
       have hfs78 := blk_frozen BK218.out 1
       have hns78_1 := NB219_218.out
       have hns78_2 := NB225_218.out
       have hns78_3 := NB242_218.out
       have hms78_1 := NB218_219.out
       have hms78_2 := NB218_225.out
       have hms78_3 := NB218_242.out
       refine skip_ (w1 := ?_) (by rfl) rfl ?_ ?_
       rotate_left
       · go_simp
         rfl
       refine hK.out _ _ ⟨v249, (by rw [ha.out]; exact putSel_none (v := undef) rfl), fun h0_ => absurd ((up_self b 6).symm.trans h0_) (by decide), fun _ => (by (with_reducible repeat (first | refine blk_drewN ?_ _ | refine blk_drew ?_ | refine blk_alloc ?_ _)); refine blk_far ?_ NB219_218.out _; (with_reducible repeat (first | refine blk_drewN ?_ _ | refine blk_drew ?_ | refine blk_alloc ?_ _)); refine blk_far ?_ NB219_218.out _; exact lb BK219.out), (by (with_reducible repeat (first | refine blk_drewN ?_ _ | refine blk_drew ?_ | refine blk_alloc ?_ _)); refine blk_far ?_ NB225_218.out _; (with_reducible repeat (first | refine blk_drewN ?_ _ | refine blk_drew ?_ | refine blk_alloc ?_ _)); refine blk_far ?_ NB225_218.out _; exact lb BK225.out), (by (with_reducible repeat (first | refine blk_drewN ?_ _ | refine blk_drew ?_ | refine blk_alloc ?_ _)); refine blk_far ?_ NB242_218.out _; (with_reducible repeat (first | refine blk_drewN ?_ _ | refine blk_drew ?_ | refine blk_alloc ?_ _)); refine blk_far ?_ NB242_218.out _; exact lb BK242.out), fun h0_ => absurd ((hon 2 (by kernel_rfl)).symm.trans h0_) (by decide), (lB HB.out), fun _ h1_ => absurd ((hon 5 (by kernel_rfl)).symm.trans h1_) (by decide), fun _ => (by (with_reducible repeat (first | apply Kd.R_alloc | apply Kd.R_drewN | apply Kd.R_drew)); exact Kd.R_mono (Kd.R_far (p := ⟨gb218, 1, none⟩) (Kd.R_far (p := ⟨gb218, 0, none⟩) (Kd.R_types HO250.out BK218.out (by decide)) (fun _ hk => hk.2) (.string t221)) (fun _ hk => hk.2) (.string t222)) (fun _ hk => trivial)), fun _ => (lI54 HI220.out), fun _ => (by (with_reducible repeat (first | refine blk_drewN ?_ _ | refine blk_drew ?_ | refine blk_alloc ?_ _)); refine blk_put (cs := #[.string t221, .string (⟨#[]⟩ : ByteArray)]) ?_ 1 _ rfl; (with_reducible repeat (first | refine blk_drewN ?_ _ | refine blk_drew ?_ | refine blk_alloc ?_ _)); refine blk_put (cs := #[.string (⟨#[]⟩ : ByteArray), .string (⟨#[]⟩ : ByteArray)]) ?_ 0 _ rfl; exact lb BK218.out), fun h0_ => absurd ((hoff 7 (by kernel_rfl)).symm.trans h0_) (by decide)⟩
     refine steps_cons ?_ ?_
     · rintro b a w' ⟨v249, ha, Q_BK218, Q_BK219, Q_BK225, Q_BK242, Q_HI220, Q_HB, Q_HI220_e2, Q_HO250, Q_HI220_e5, Q_BK218_e6, Q_BK219_e7⟩ hb_ hon hoff
       refine ⟨_, rfl, fun K hK => ?_⟩
       have e3 : a.tmps[3]? = some (.pointer (some ⟨gb219, 0, none⟩)) := by rw [ha]; exact (putSel_off rfl).trans rfl
       have e35 : a.tmps[35]? = some (.agg #[.string t244, .string t245]) := by rw [ha]; exact putSel_on (e := (2, 35, .agg #[.string t244, .string t245])) 1 rfl rfl (hon 2 (by kernel_rfl)) rfl
       replace ha := Aside0.mk ha
       have BK219 := Aside0.mk (Q_BK219 hb_)
       have BK225 := Aside0.mk Q_BK225
       have BK242 := Aside0.mk Q_BK242
       have HB := Aside0.mk Q_HB
       have HO250 := Aside0.mk (Q_HO250 (hon 4 (by kernel_rfl)))
       have HI220 := Aside0.mk (Q_HI220_e5 (hon 5 (by kernel_rfl)))
       have BK218 := Aside0.mk (Q_BK218_e6 (hon 6 (by kernel_rfl)))
       have hs79 : w'.cell? ⟨gb219, 0, none⟩ = some (.string (⟨#[]⟩ : ByteArray)) := (blk_cell BK219.out 0).trans rfl
       have hfs79 := blk_frozen BK219.out 0
       have hns79_0 := NB218_219.out
       have hns79_2 := NB225_219.out
       have hns79_3 := NB242_219.out
       have hms79_0 := NB219_218.out
       have hms79_2 := NB219_225.out
       have hms79_3 := NB219_242.out
       have hs80 : w'.cell? ⟨gb219, 1, none⟩ = some (.string (⟨#[]⟩ : ByteArray)) := (blk_cell BK219.out 1).trans rfl
       have hfs80 := blk_frozen BK219.out 1
       have hns80_0 := NB218_219.out
       have hns80_2 := NB225_219.out
       have hns80_3 := NB242_219.out
       have hms80_0 := NB219_218.out
       have hms80_2 := NB219_225.out
       have hms80_3 := NB219_242.out
       refine skip_ (w1 := ?_) (by rfl) rfl ?_ ?_
       rotate_left
       · go_simp
         rfl
       refine hK.out _ _ ⟨v249, (by rw [ha.out]; exact putSel_none (v := undef) rfl), fun h0_ => absurd ((hon 6 (by kernel_rfl)).symm.trans h0_) (by decide), fun h0_ => absurd ((up_self b 7).symm.trans h0_) (by decide), (by (with_reducible repeat (first | refine blk_drewN ?_ _ | refine blk_drew ?_ | refine blk_alloc ?_ _)); refine blk_far ?_ NB225_219.out _; (with_reducible repeat (first | refine blk_drewN ?_ _ | refine blk_drew ?_ | refine blk_alloc ?_ _)); refine blk_far ?_ NB225_219.out _; exact lb BK225.out), (by (with_reducible repeat (first | refine blk_drewN ?_ _ | refine blk_drew ?_ | refine blk_alloc ?_ _)); refine blk_far ?_ NB242_219.out _; (with_reducible repeat (first | refine blk_drewN ?_ _ | refine blk_drew ?_ | refine blk_alloc ?_ _)); refine blk_far ?_ NB242_219.out _; exact lb BK242.out), fun h0_ => absurd ((hon 2 (by kernel_rfl)).symm.trans h0_) (by decide), (lB HB.out), fun _ h1_ => absurd ((hon 5 (by kernel_rfl)).symm.trans h1_) (by decide), fun _ => (by (with_reducible repeat (first | apply Kd.R_alloc | apply Kd.R_drewN | apply Kd.R_drew)); exact Kd.R_mono (Kd.R_far (p := ⟨gb219, 1, none⟩) (Kd.R_far (p := ⟨gb219, 0, none⟩) (Kd.R_types HO250.out BK219.out (by decide)) (fun _ hk => hk.2) (.string t244)) (fun _ hk => hk.2) (.string t245)) (fun _ hk => trivial)), fun _ => (lI54 HI220.out), fun _ => (by (with_reducible repeat (first | refine blk_drewN ?_ _ | refine blk_drew ?_ | refine blk_alloc ?_ _)); refine blk_far ?_ NB218_219.out _; (with_reducible repeat (first | refine blk_drewN ?_ _ | refine blk_drew ?_ | refine blk_alloc ?_ _)); refine blk_far ?_ NB218_219.out _; exact lb BK218.out), fun _ => (by (with_reducible repeat (first | refine blk_drewN ?_ _ | refine blk_drew ?_ | refine blk_alloc ?_ _)); refine blk_put (cs := #[.string t244, .string (⟨#[]⟩ : ByteArray)]) ?_ 1 _ rfl; (with_reducible repeat (first | refine blk_drewN ?_ _ | refine blk_drew ?_ | refine blk_alloc ?_ _)); refine blk_put (cs := #[.string (⟨#[]⟩ : ByteArray), .string (⟨#[]⟩ : ByteArray)]) ?_ 0 _ rfl; exact lb BK219.out)⟩
     refine steps_cons ?_ ?_
     · rintro b a w' ⟨v249, ha, Q_BK218, Q_BK219, Q_BK225, Q_BK242, Q_HI220, Q_HB, Q_HI220_e2, Q_HO250, Q_HI220_e5, Q_BK218_e6, Q_BK219_e7⟩ hb_ hon hoff
       refine ⟨_, rfl, fun K hK => ?_⟩
       have e38 : a.tmps[38]? = some (.int .i64 t251) := by rw [ha]; exact putSel_on (e := (5, 38, .int .i64 t251)) 3 rfl rfl (hon 5 (by kernel_rfl)) rfl
       replace ha := Aside0.mk ha
       have BK225 := Aside0.mk Q_BK225
       have BK242 := Aside0.mk Q_BK242
       have HB := Aside0.mk Q_HB
       have HO250 := Aside0.mk (Q_HO250 (hon 4 (by kernel_rfl)))
       have HI220 := Aside0.mk (Q_HI220_e5 (hon 5 (by kernel_rfl)))
       have BK218 := Aside0.mk (Q_BK218_e6 (hon 6 (by kernel_rfl)))
       have BK219 := Aside0.mk (Q_BK219_e7 (hon 7 (by kernel_rfl)))
       refine value_ (w1 := w') (v := .int .i64 t251) (by rfl) rfl ?_ ?_
       · go_simp
         (try simp only [i64_w])
         try rfl
       refine hK.out _ _ ⟨v249, (by rw [ha.out]; exact putSel_upk 4 hb_ rfl rfl rfl), fun h0_ => absurd ((hon 6 (by kernel_rfl)).symm.trans h0_) (by decide), fun h0_ => absurd ((hon 7 (by kernel_rfl)).symm.trans h0_) (by decide), Q_BK225, Q_BK242, fun h0_ => absurd ((hon 2 (by kernel_rfl)).symm.trans h0_) (by decide), Q_HB, fun _ h1_ => absurd ((hon 5 (by kernel_rfl)).symm.trans h1_) (by decide), Q_HO250, Q_HI220_e5, Q_BK218_e6, Q_BK219_e7⟩
     exact steps_nil
   rintro b a w80 hall ⟨v249, ha, Q_BK218, Q_BK219, Q_BK225, Q_BK242, Q_HI220, Q_HB, Q_HI220_e2, Q_HO250, Q_HI220_e5, Q_BK218_e6, Q_BK219_e7⟩
   clear BK218 BK219 BK225 BK242 HB HI220
   have hb0_ := hall 0 (by kernel_rfl)
   have hb2_ := hall 2 (by kernel_rfl)
   have hb4_ := hall 4 (by kernel_rfl)
   have hb5_ := hall 5 (by kernel_rfl)
   have hb6_ := hall 6 (by kernel_rfl)
   have hb7_ := hall 7 (by kernel_rfl)
   have hb8_ := hall 8 (by kernel_rfl)
   subst ha
   simp only [putSel, hb0_, hb2_, hb4_, hb5_, hb6_, hb7_, hb8_, if_true, Act.put, List.setIfInBounds_toArray, List.set_cons_zero, List.set_cons_succ]
   clear Q_BK218
   clear Q_BK219
   have BK225 := Aside0.mk Q_BK225
   clear Q_BK225
   have BK242 := Aside0.mk Q_BK242
   clear Q_BK242
   clear Q_HI220
   have HB := Aside0.mk Q_HB
   clear Q_HB
   clear Q_HI220_e2
   have HO250 := Aside0.mk (Q_HO250 hb4_)
   clear Q_HO250
   have HI220 := Aside0.mk (Q_HI220_e5 hb5_)
   clear Q_HI220_e5
   have BK218 := Aside0.mk (Q_BK218_e6 hb6_)
   clear Q_BK218_e6
   have BK219 := Aside0.mk (Q_BK219_e7 hb7_)
   clear Q_BK219_e7
   clear hall hb0_ hb2_ hb4_ hb5_ hb6_ hb7_ hb8_
   try go_wp2
   refine bodyPost_ret (results_list (rs := [.cell 2 25, .cell 3 25, .tmp 4]) rfl (by simp) (.cell gb218 25 #[.string t221, .string t222] (0, 0) _ rfl (lb BK218.out) Tryz.underlying25 rfl (by kernel_rfl) (.cell gb219 25 #[.string t244, .string t245] (0, 0) _ rfl (lb BK219.out) Tryz.underlying25 rfl (by kernel_rfl) (.tmp .nil)))) rfl ?_
   exact ⟨lx, by exact lB HB.out⟩
end Go.Proofs.YtijnadjgmmednaaGreat.PA
