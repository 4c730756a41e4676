import Derived.Test.YtijnadjgmmednaaXg30
import Derived.Test.YtijnadjgmmednaaXg33
import Derived.Test.YtijnadjgmmednaaXg37
/- A part of the proof: lemmas that later parts use. -/
set_option linter.unusedVariables false
set_option linter.unusedSimpArgs false
namespace Go.Proofs.Ytijnadjgmmednaa.PA
open Go.RowKit Go.Proofs.YtijnadjgmmednaaW.PrintWords Go.Proofs.YtijnadjgmmednaaW.PrintLast Go.Proofs.YtijnadjgmmednaaW.PrintMore
attribute [local go_sem] max2_int min2_int max_two min_two max_three min_three max_four min_four
def spec_l1Cur_sureTree.l0 : Nat → Int → ByteArray → Int → List Int → Int → Int → Option (ByteArray × Int × Int)
  | 0, _, _, _, _, _, _ => none
  | k + 1, x1, x5, x6, x1000, x1001, x1002 => if x6 < x1 then ((spec_l1Cur_pick.f x1000 x1001 x1002 (wrap64 (x6 + 1))).bind fun bt112 => ((spec_trGraft.f x5 bt112.1 (⟨#[40, 46, 46, 41]⟩ : ByteArray)).bind fun t115 => (spec_l1Cur_sureTree.l0 k x1 t115 (wrap64 (x6 + 1)) x1000 bt112.2.1 bt112.2.2))) else (some (x5, x1001, x1002))
def spec_l1Cur_sureTree.f (k : Nat) (s0_0 : List Int) (s0_1 : Int) (s0_2 : Int) (a1 : Int) : Option (ByteArray × Int × Int) := spec_l1Cur_sureTree.l0 k a1 (⟨#[46]⟩ : ByteArray) 0 s0_0 s0_1 s0_2
theorem spec_l1Cur_sureTree.mono_l : ∀ k, (∀ y0 y1 y2 y3 y4 y5, LeO (spec_l1Cur_sureTree.l0 k y0 y1 y2 y3 y4 y5) (spec_l1Cur_sureTree.l0 (k + 1) y0 y1 y2 y3 y4 y5))
  | 0 => fun _ _ _ _ _ _ r h => by simp [spec_l1Cur_sureTree.l0] at h
  | k + 1 => by
    have ih0 := spec_l1Cur_sureTree.mono_l k
    · intro y0 y1 y2 y3 y4 y5
      unfold spec_l1Cur_sureTree.l0
      repeat' first
      | (with_reducible exact ih0 _ _ _ _ _ _)
      | (with_reducible exact LeO.refl _)
      | (with_reducible exact LeO.none _)
      | (with_reducible refine LeO.ite ?_ ?_)
      | (with_reducible refine LeO.bind ?_ (fun _ => ?_))
      | exact ih0 _ _ _ _ _ _
      | exact LeO.none _
      | refine LeO.ite ?_ ?_
      | refine LeO.bind ?_ (fun _ => ?_)
theorem spec_l1Cur_sureTree.mono : ∀ a0 a1 a2 a3 k, LeO (spec_l1Cur_sureTree.f k a0 a1 a2 a3) (spec_l1Cur_sureTree.f (k + 1) a0 a1 a2 a3) := by
  intro a0 a1 a2 a3 k
  have ih0 := spec_l1Cur_sureTree.mono_l k
  unfold spec_l1Cur_sureTree.f
  repeat' first
      | (with_reducible exact ih0 _ _ _ _ _ _)
      | (with_reducible exact LeO.refl _)
      | (with_reducible exact LeO.none _)
      | (with_reducible refine LeO.ite ?_ ?_)
      | (with_reducible refine LeO.bind ?_ (fun _ => ?_))
      | exact ih0 _ _ _ _ _ _
      | exact LeO.none _
      | refine LeO.ite ?_ ?_
      | refine LeO.bind ?_ (fun _ => ?_)
set_option maxHeartbeats 8000000 in
set_option maxRecDepth 100000 in
theorem spec_l1Cur_sureTree.calls (k : Nat) (g : Nat) (s0_0 : List Int) (s0_1 : Int) (s0_2 : Int) (a1 : Int) (r1 : ByteArray) (r2 : Int) (r3 : Int) (w0 w : World) (hI : IsS78 w0 w g s0_0 s0_1 s0_2) (hB : Below w0.heap.size w0 w) (h : spec_l1Cur_sureTree.f k s0_0 s0_1 s0_2 a1 = some (r1, r2, r3)) :
    Calls Try.prog 158 #[.pointer (some ⟨g, 0, none⟩), .int .i64 a1] w fun e w' => e = .returned (.string r1) ∧ IsS78 w0 w' g s0_0 r2 r3 ∧ Below w0.heap.size w0 w' ∧ KeepBut w w' g none := by
  have HI0 := Aside0.mk hI
  have HK := Aside0.mk (KeepBut.refl w g none)
  have HL := Aside0.mk hB.size
  clear hI
  have HW0 := Aside0.mk hB.size
  have HB := Aside0.mk hB
  clear hB
  have H : (spec_l1Cur_sureTree.l0 k a1 (⟨#[46]⟩ : ByteArray) 0 s0_0 s0_1 s0_2) = some (r1, r2, r3) := h
  clear h
  have H' := Aside0.mk H
  clear H
  go_enter Try.func158, Try.ntmps158
  go_wp2
  go_loopg [5, 6] k (fun kq v5 v6 w' => ∃ (x5_1 : ByteArray) (x6_1 : Int) (x1001_1 : Int) (x1002_1 : Int), v5 = .string x5_1 ∧ v6 = .int .i64 x6_1 ∧ Aside0 (spec_l1Cur_sureTree.l0 kq a1 x5_1 x6_1 s0_0 x1001_1 x1002_1 = some (r1, r2, r3)) ∧ Aside0 (kq ≤ k) ∧ Aside0 (IsS78 w0 w' g s0_0 x1001_1 x1002_1) ∧ Aside0 (KeepBut w w' g none) ∧ Aside0 (Below w0.heap.size w0 w'))
  case atStart => exact ⟨((⟨#[46]⟩ : ByteArray)), (0), (s0_1), (s0_2), (by first | rfl | (simp; done) | (simp [*]; done)), (by first | rfl | (simp; done) | (simp [*]; done)), H', ⟨Nat.le_refl _⟩, ⟨by exact lI78 HI0.out⟩, ⟨by exact lK HK.out⟩, ⟨by exact lB HB.out⟩⟩
  case round =>
   clear H'
   obtain ⟨x5_1, x6_1, x1001_1, x1002_1, rfl, rfl, HA, HK1, HI0, HK, HB⟩ := hrel
   cases gk with
   | zero => exact absurd HA.out (by simp [spec_l1Cur_sureTree.l0])
   | succ k1 =>
     have H := HA.out
     clear HA
     simp only [spec_l1Cur_sureTree.l0] at H
     by_cases c3 : x6_1 < a1
     · rw [if_pos c3] at H
       have c3b0 : decide (x6_1 < a1) = true := decide_eq_true c3
       clear c3
       replace H := Option.bind_eq_some_iff.mp H
       obtain ⟨⟨t112, t113, t114⟩, A40, H⟩ := H
       replace H : ((spec_trGraft.f x5_1 t112 (⟨#[40, 46, 46, 41]⟩ : ByteArray)).bind fun t115 => (spec_l1Cur_sureTree.l0 k1 a1 t115 (wrap64 (x6_1 + 1)) s0_0 t113 t114)) = some (r1, r2, r3) := H
       have A4 := Aside0.mk A40
       clear A40
       replace H := Option.bind_eq_some_iff.mp H
       obtain ⟨t115, A50, H⟩ := H
       replace H : (spec_l1Cur_sureTree.l0 k1 a1 t115 (wrap64 (x6_1 + 1)) s0_0 t113 t114) = some (r1, r2, r3) := H
       have A5 := Aside0.mk A50
       clear A50
       have H' := Aside0.mk H
       clear H
       go_wp2_with (first | ((with_reducible refine gate_callee (f := 74) rfl ?_); refine goesL_ (some 16) rfl rfl Try.func74 (by kernel_rfl) rfl #[.pointer (some ⟨g, 0, none⟩), .int .i64 (wrap64 (x6_1 + 1))] rfl lm ?_; (with_reducible refine (spec_l1Cur_pick.calls g s0_0 x1001_1 x1002_1 (wrap64 (x6_1 + 1)) t112 t113 t114 w0 _ ?side1 ?side2 A4.out).mono ?_); (case side1 => exact lI78 HI0.out); (case side2 => exact lB HB.out); rintro e w6 ⟨rfl, hi, hb, hk⟩; refine ⟨_, rfl, ?_⟩; have n0_ := Aside0.mk (KeepBut.trans (lK HK.out) hk (.inl rfl)); have n1_ := Aside0.mk (hb); have n2_ := Aside0.mk (hi); clear HK HB HI0; have HK := n0_; have HB := n1_; have HI0 := n2_; clear n0_ n1_ n2_; (try clear hb); (try clear hb2); (try clear hk); (try clear hi)) | ((with_reducible refine gate_callee (f := 87) rfl ?_); refine goesL_ (some 17) rfl rfl Try.func87 (by kernel_rfl) rfl #[.string x5_1, .int .i64 t112, .string (⟨#[40, 46, 46, 41]⟩ : ByteArray)] rfl lm ?_; (with_reducible refine (spec_trGraft.calls x5_1 t112 (⟨#[40, 46, 46, 41]⟩ : ByteArray) t115 _ A5.out).mono ?_); rintro e w' ⟨rfl, ⟨nd, rfl⟩⟩; refine ⟨_, rfl, ?_⟩))
       go_roundg k1
       case measure => have := HK1.out; omega
       case rel => exact ⟨(t115), (wrap64 (x6_1 + 1)), (t113), (t114), (by first | rfl | (simp; done) | (simp [*]; done)), (by first | rfl | (simp; done) | (simp [*]; done)), H', ⟨by have := HK1.out; omega⟩, ⟨by exact lI78 HI0.out⟩, ⟨by exact lK HK.out⟩, ⟨by exact lB HB.out⟩⟩
     · rw [if_neg c3] at H
       have c3b0 : decide (x6_1 < a1) = false := decide_eq_false c3
       clear c3
       simp only [Option.some.injEq, Prod.mk.injEq] at H
       obtain ⟨rfl, rfl, rfl⟩ := H
       go_wp2
       go_ret
       exact ⟨lx, by exact lI78 HI0.out, by exact lB HB.out, by exact lK HK.out⟩
def spec_l1Cur_surePair.f (k : Nat) (s0_0 : List Int) (s0_1 : Int) (s0_2 : Int) (a1 : Int) : Option (ByteArray × ByteArray × Int × Int) := (spec_l1Cur_sureTree.f k s0_0 s0_1 s0_2 a1).bind fun bt117 => ((spec_l1Cur_sureTree.f k s0_0 bt117.2.1 bt117.2.2 a1).bind fun bt120 => (some (bt117.1, bt120.1, bt120.2.1, bt120.2.2)))
theorem spec_l1Cur_surePair.mono : ∀ a0 a1 a2 a3 k, LeO (spec_l1Cur_surePair.f k a0 a1 a2 a3) (spec_l1Cur_surePair.f (k + 1) a0 a1 a2 a3) := by
  intro a0 a1 a2 a3 k
  unfold spec_l1Cur_surePair.f
  repeat' first
      | (with_reducible exact spec_l1Cur_sureTree.mono _ _ _ _ _)
      | (with_reducible exact LeO.refl _)
      | (with_reducible exact LeO.none _)
      | (with_reducible refine LeO.ite ?_ ?_)
      | (with_reducible refine LeO.bind ?_ (fun _ => ?_))
      | exact spec_l1Cur_sureTree.mono _ _ _ _ _
      | exact LeO.none _
      | refine LeO.ite ?_ ?_
      | refine LeO.bind ?_ (fun _ => ?_)
set_option maxHeartbeats 8000000 in
set_option maxRecDepth 100000 in
theorem spec_l1Cur_surePair.calls (k : Nat) (g : Nat) (s0_0 : List Int) (s0_1 : Int) (s0_2 : Int) (a1 : Int) (r1 : ByteArray) (r2 : ByteArray) (r3 : Int) (r4 : Int) (w0 w : World) (hI : IsS78 w0 w g s0_0 s0_1 s0_2) (hB : Below w0.heap.size w0 w) (h : spec_l1Cur_surePair.f k s0_0 s0_1 s0_2 a1 = some (r1, r2, r3, r4)) :
    Calls Try.prog 117 #[.pointer (some ⟨g, 0, none⟩), .int .i64 a1] w fun e w' => e = .returned (.agg #[.string r1, .string r2]) ∧ IsS78 w0 w' g s0_0 r3 r4 ∧ Below w0.heap.size w0 w' ∧ KeepBut w w' g none := by
  have hu25 := Try.underlying25
  have HI0 := Aside0.mk hI
  have HK := Aside0.mk (KeepBut.refl w g none)
  have HL := Aside0.mk hB.size
  clear hI
  have HW0 := Aside0.mk hB.size
  have HB := Aside0.mk hB
  clear hB
  have H : ((spec_l1Cur_sureTree.f k s0_0 s0_1 s0_2 a1).bind fun bt117 => ((spec_l1Cur_sureTree.f k s0_0 bt117.2.1 bt117.2.2 a1).bind fun bt120 => (some (bt117.1, bt120.1, bt120.2.1, bt120.2.2)))) = some (r1, r2, r3, r4) := h
  clear h
  replace H := Option.bind_eq_some_iff.mp H
  obtain ⟨⟨t117, t118, t119⟩, A30, H⟩ := H
  replace H : ((spec_l1Cur_sureTree.f k s0_0 t118 t119 a1).bind fun bt120 => (some (t117, bt120.1, bt120.2.1, bt120.2.2))) = some (r1, r2, r3, r4) := H
  have A3 := Aside0.mk A30
  clear A30
  replace H := Option.bind_eq_some_iff.mp H
  obtain ⟨⟨t120, t121, t122⟩, A40, H⟩ := H
  replace H : (some (t117, t120, t121, t122)) = some (r1, r2, r3, r4) := H
  have A4 := Aside0.mk A40
  clear A40
  simp only [Option.some.injEq, Prod.mk.injEq] at H
  obtain ⟨rfl, rfl, rfl, rfl⟩ := H
  go_enter Try.func117, Try.ntmps117
  go_wp2_with (first | ((with_reducible refine gate_dst (N := 4) rfl ?_); refine box_event ?hg (N := 4) ?hd (cs := #[.string (⟨#[]⟩ : ByteArray), .string (⟨#[]⟩ : ByteArray)]) (t := 25) ?hr ?_; (case hd => rfl); (case hg => rfl); (case hr => exact lr); intro gb116 hg w5 hbox hb; have n0_ := Aside0.mk (IsS78.below (lI78 HI0.out) hb); have n1_ := Aside0.mk (KeepBut.trans (lK HK.out) (KeepBut.of_below hb g none) (.inl rfl)); have n2_ := Aside0.mk (below_step (lB HB.out) hb); have n3_ := Aside0.mk (hbox); have n4_ := Aside0.mk ((by rw [hg]; exact (keep_size (w := w) (g := g) (row := none) (lK HK.out)) : w.heap.size ≤ gb116)); have n5_ := Aside0.mk ((Nat.le_trans HW0.out (by rw [hg]; exact (keep_size (w := w) (g := g) (row := none) (lK HK.out)) : w.heap.size ≤ gb116) : w0.heap.size ≤ gb116)); have n6_ := Aside0.mk ((by rw [hg]; exact Nat.ne_of_lt (IsS78.lt (show IsS78 w0 _ g s0_0 s0_1 s0_2 from by exact lI78 HI0.out)) : g ≠ gb116)); have n7_ := Aside0.mk ((by rw [hg]; exact Nat.ne_of_gt (IsS78.lt (show IsS78 w0 _ g s0_0 s0_1 s0_2 from by exact lI78 HI0.out)) : gb116 ≠ g)); clear HI0 HK HB; have HI0 := n0_; have HK := n1_; have HB := n2_; have BK116 := n3_; have GW116 := n4_; have GE116 := n5_; have NB0_116 := n6_; have NB116_0 := n7_; clear n0_ n1_ n2_ n3_ n4_ n5_ n6_ n7_; clear hb hbox hg) | ((with_reducible refine gate_callee (f := 158) rfl ?_); refine goesL_ (some 7) rfl rfl Try.func158 (by kernel_rfl) rfl #[.pointer (some ⟨g, 0, none⟩), .int .i64 a1] rfl lm ?_; (with_reducible refine (spec_l1Cur_sureTree.calls k g s0_0 s0_1 s0_2 a1 t117 t118 t119 w0 _ ?side1 ?side2 A3.out).mono ?_); (case side1 => exact lI78 HI0.out); (case side2 => exact lB HB.out); rintro e w6 ⟨rfl, hi, hb, hk⟩; refine ⟨_, rfl, ?_⟩; have n0_ := Aside0.mk (KeepBut.blk hk (g' := gb116) (o := .cells #[.string (⟨#[]⟩ : ByteArray), .string (⟨#[]⟩ : ByteArray)] 25 (0, 0)) (lb BK116.out) NB116_0.out (by simp)); have n1_ := Aside0.mk (KeepBut.trans (lK HK.out) hk (.inl rfl)); have n2_ := Aside0.mk (hb); have n3_ := Aside0.mk (hi); clear BK116 HK HB HI0; have BK116 := n0_; have HK := n1_; have HB := n2_; have HI0 := n3_; clear n0_ n1_ n2_ n3_; (try clear hb); (try clear hb2); (try clear hk); (try clear hi)) | ((with_reducible refine gate_callee (f := 158) rfl ?_); refine goesL_ (some 10) rfl rfl Try.func158 (by kernel_rfl) rfl #[.pointer (some ⟨g, 0, none⟩), .int .i64 a1] rfl lm ?_; (with_reducible refine (spec_l1Cur_sureTree.calls k g s0_0 t118 t119 a1 t120 t121 t122 w0 _ ?side1 ?side2 A4.out).mono ?_); (case side1 => exact lI78 HI0.out); (case side2 => exact lB HB.out); rintro e w7 ⟨rfl, hi, hb, hk⟩; refine ⟨_, rfl, ?_⟩; have n0_ := Aside0.mk (KeepBut.blk hk (g' := gb116) (o := .cells #[.string (⟨#[]⟩ : ByteArray), .string (⟨#[]⟩ : ByteArray)] 25 (0, 0)) (lb BK116.out) NB116_0.out (by simp)); have n1_ := Aside0.mk (KeepBut.trans (lK HK.out) hk (.inl rfl)); have n2_ := Aside0.mk (hb); have n3_ := Aside0.mk (hi); clear BK116 HK HB HI0; have BK116 := n0_; have HK := n1_; have HB := n2_; have HI0 := n3_; clear n0_ n1_ n2_ n3_; (try clear hb); (try clear hb2); (try clear hk); (try clear hi); have hnb8 := NB116_0.out; have hnc8 := NB0_116.out; have hcz9_0 : w7.cell? ⟨gb116, 0, none⟩ = some (.string (⟨#[]⟩ : ByteArray)) := (blk_cell BK116.out 0).trans rfl; have hcz9_1 : w7.cell? ⟨gb116, 1, none⟩ = some (.string (⟨#[]⟩ : ByteArray)) := (blk_cell BK116.out 1).trans rfl; have hfz9_0 := blk_frozen BK116.out 0; have hfz9_1 := blk_frozen BK116.out 1))
  refine bodyPost_ret (results_cell_row rfl _ _ gb116 25 #[.string t117, .string t120] (0, 0) _ rfl (by (with_reducible repeat (first | refine blk_drewN ?_ _ | refine blk_drew ?_ | refine blk_alloc ?_ _)); refine blk_put (cs := #[.string t117, .string (⟨#[]⟩ : ByteArray)]) ?_ 1 _ rfl; (with_reducible repeat (first | refine blk_drewN ?_ _ | refine blk_drew ?_ | refine blk_alloc ?_ _)); refine blk_put (cs := #[.string (⟨#[]⟩ : ByteArray), .string (⟨#[]⟩ : ByteArray)]) ?_ 0 _ rfl; exact lb BK116.out) Try.underlying25 rfl (by kernel_rfl)) rfl ?_
  exact ⟨lx, by exact lI78 HI0.out, by exact lB HB.out, by exact lK HK.out⟩
def spec_l1Cur_tree.f (k : Nat) (s0_0 : List Int) (s0_1 : Int) (s0_2 : Int) (a1 : Int) : Option (ByteArray × Int × Int) := (spec_l1Cur_pick.f s0_0 s0_1 s0_2 (wrap64 (a1 + 1))).bind fun bt138 => ((spec_l1Cur_sureTree.f k s0_0 bt138.2.1 bt138.2.2 bt138.1).bind fun bt141 => ((spec_l1Cur_pick.f s0_0 bt141.2.1 bt141.2.2 14).bind fun bt144 => (if bt144.1 = 0 then ((spec_l1Cur_spoilt.f k s0_0 bt144.2.1 bt144.2.2 bt141.1 (⟨#[40, 46, 41]⟩ : ByteArray)).bind fun bt147 => (some (bt147.1, bt147.2.1, bt147.2.2))) else (if bt144.1 = 1 then ((spec_l1Cur_pick.f s0_0 bt144.2.1 bt144.2.2 2).bind fun bt150 => ((spec_l1Cur_sureTree.f k s0_0 bt150.2.1 bt150.2.2 (wrap64 (8 + bt150.1))).bind fun bt153 => (some (bt153.1, bt153.2.1, bt153.2.2)))) else (some (bt141.1, bt144.2.1, bt144.2.2))))))
theorem spec_l1Cur_tree.mono : ∀ a0 a1 a2 a3 k, LeO (spec_l1Cur_tree.f k a0 a1 a2 a3) (spec_l1Cur_tree.f (k + 1) a0 a1 a2 a3) := by
  intro a0 a1 a2 a3 k
  unfold spec_l1Cur_tree.f
  repeat' first
      | (with_reducible exact spec_l1Cur_spoilt.mono _ _ _ _ _ _)
      | (with_reducible exact spec_l1Cur_sureTree.mono _ _ _ _ _)
      | (with_reducible exact LeO.refl _)
      | (with_reducible exact LeO.none _)
      | (with_reducible refine LeO.ite ?_ ?_)
      | (with_reducible refine LeO.bind ?_ (fun _ => ?_))
      | exact spec_l1Cur_spoilt.mono _ _ _ _ _ _
      | exact spec_l1Cur_sureTree.mono _ _ _ _ _
      | exact LeO.none _
      | refine LeO.ite ?_ ?_
      | refine LeO.bind ?_ (fun _ => ?_)
set_option maxHeartbeats 8000000 in
set_option maxRecDepth 100000 in
theorem spec_l1Cur_tree.calls (k : Nat) (g : Nat) (s0_0 : List Int) (s0_1 : Int) (s0_2 : Int) (a1 : Int) (r1 : ByteArray) (r2 : Int) (r3 : Int) (w0 w : World) (hI : IsS78 w0 w g s0_0 s0_1 s0_2) (hB : Below w0.heap.size w0 w) (h : spec_l1Cur_tree.f k s0_0 s0_1 s0_2 a1 = some (r1, r2, r3)) :
    Calls Try.prog 118 #[.pointer (some ⟨g, 0, none⟩), .int .i64 a1] w fun e w' => e = .returned (.string r1) ∧ IsS78 w0 w' g s0_0 r2 r3 ∧ Below w0.heap.size w0 w' ∧ KeepBut w w' g none := by
  have HI0 := Aside0.mk hI
  have HK := Aside0.mk (KeepBut.refl w g none)
  have HL := Aside0.mk hB.size
  clear hI
  have HW0 := Aside0.mk hB.size
  have HB := Aside0.mk hB
  clear hB
  have H : ((spec_l1Cur_pick.f s0_0 s0_1 s0_2 (wrap64 (a1 + 1))).bind fun bt138 => ((spec_l1Cur_sureTree.f k s0_0 bt138.2.1 bt138.2.2 bt138.1).bind fun bt141 => ((spec_l1Cur_pick.f s0_0 bt141.2.1 bt141.2.2 14).bind fun bt144 => (if bt144.1 = 0 then ((spec_l1Cur_spoilt.f k s0_0 bt144.2.1 bt144.2.2 bt141.1 (⟨#[40, 46, 41]⟩ : ByteArray)).bind fun bt147 => (some (bt147.1, bt147.2.1, bt147.2.2))) else (if bt144.1 = 1 then ((spec_l1Cur_pick.f s0_0 bt144.2.1 bt144.2.2 2).bind fun bt150 => ((spec_l1Cur_sureTree.f k s0_0 bt150.2.1 bt150.2.2 (wrap64 (8 + bt150.1))).bind fun bt153 => (some (bt153.1, bt153.2.1, bt153.2.2)))) else (some (bt141.1, bt144.2.1, bt144.2.2))))))) = some (r1, r2, r3) := h
  clear h
  replace H := Option.bind_eq_some_iff.mp H
  obtain ⟨⟨t138, t139, t140⟩, A30, H⟩ := H
  replace H : ((spec_l1Cur_sureTree.f k s0_0 t139 t140 t138).bind fun bt141 => ((spec_l1Cur_pick.f s0_0 bt141.2.1 bt141.2.2 14).bind fun bt144 => (if bt144.1 = 0 then ((spec_l1Cur_spoilt.f k s0_0 bt144.2.1 bt144.2.2 bt141.1 (⟨#[40, 46, 41]⟩ : ByteArray)).bind fun bt147 => (some (bt147.1, bt147.2.1, bt147.2.2))) else (if bt144.1 = 1 then ((spec_l1Cur_pick.f s0_0 bt144.2.1 bt144.2.2 2).bind fun bt150 => ((spec_l1Cur_sureTree.f k s0_0 bt150.2.1 bt150.2.2 (wrap64 (8 + bt150.1))).bind fun bt153 => (some (bt153.1, bt153.2.1, bt153.2.2)))) else (some (bt141.1, bt144.2.1, bt144.2.2)))))) = some (r1, r2, r3) := H
  have A3 := Aside0.mk A30
  clear A30
  replace H := Option.bind_eq_some_iff.mp H
  obtain ⟨⟨t141, t142, t143⟩, A40, H⟩ := H
  replace H : ((spec_l1Cur_pick.f s0_0 t142 t143 14).bind fun bt144 => (if bt144.1 = 0 then ((spec_l1Cur_spoilt.f k s0_0 bt144.2.1 bt144.2.2 t141 (⟨#[40, 46, 41]⟩ : ByteArray)).bind fun bt147 => (some (bt147.1, bt147.2.1, bt147.2.2))) else (if bt144.1 = 1 then ((spec_l1Cur_pick.f s0_0 bt144.2.1 bt144.2.2 2).bind fun bt150 => ((spec_l1Cur_sureTree.f k s0_0 bt150.2.1 bt150.2.2 (wrap64 (8 + bt150.1))).bind fun bt153 => (some (bt153.1, bt153.2.1, bt153.2.2)))) else (some (t141, bt144.2.1, bt144.2.2))))) = some (r1, r2, r3) := H
  have A4 := Aside0.mk A40
  clear A40
  replace H := Option.bind_eq_some_iff.mp H
  obtain ⟨⟨t144, t145, t146⟩, A50, H⟩ := H
  replace H : (if t144 = 0 then ((spec_l1Cur_spoilt.f k s0_0 t145 t146 t141 (⟨#[40, 46, 41]⟩ : ByteArray)).bind fun bt147 => (some (bt147.1, bt147.2.1, bt147.2.2))) else (if t144 = 1 then ((spec_l1Cur_pick.f s0_0 t145 t146 2).bind fun bt150 => ((spec_l1Cur_sureTree.f k s0_0 bt150.2.1 bt150.2.2 (wrap64 (8 + bt150.1))).bind fun bt153 => (some (bt153.1, bt153.2.1, bt153.2.2)))) else (some (t141, t145, t146)))) = some (r1, r2, r3) := H
  have A5 := Aside0.mk A50
  clear A50
  by_cases c6 : t144 = 0
  · rw [if_pos c6] at H
    have c6b0 : (t144 == 0) = true := beq_iff_eq.mpr c6
    have c6b1 : (t144 != 0) = false := bne_eq_false_iff_eq.mpr c6
    clear c6
    replace H := Option.bind_eq_some_iff.mp H
    obtain ⟨⟨t147, t148, t149⟩, A70, H⟩ := H
    replace H : (some (t147, t148, t149)) = some (r1, r2, r3) := H
    have A7 := Aside0.mk A70
    clear A70
    simp only [Option.some.injEq, Prod.mk.injEq] at H
    obtain ⟨rfl, rfl, rfl⟩ := H
    go_enter Try.func118, Try.ntmps118
    go_wp2_with (first | ((with_reducible refine gate_callee (f := 74) rfl ?_); refine goesL_ (some 10) rfl rfl Try.func74 (by kernel_rfl) rfl #[.pointer (some ⟨g, 0, none⟩), .int .i64 (wrap64 (a1 + 1))] rfl lm ?_; (with_reducible refine (spec_l1Cur_pick.calls g s0_0 s0_1 s0_2 (wrap64 (a1 + 1)) t138 t139 t140 w0 _ ?side1 ?side2 A3.out).mono ?_); (case side1 => exact lI78 HI0.out); (case side2 => exact lB HB.out); rintro e w8 ⟨rfl, hi, hb, hk⟩; refine ⟨_, rfl, ?_⟩; have n0_ := Aside0.mk (KeepBut.trans (lK HK.out) hk (.inl rfl)); have n1_ := Aside0.mk (hb); have n2_ := Aside0.mk (hi); clear HK HB HI0; have HK := n0_; have HB := n1_; have HI0 := n2_; clear n0_ n1_ n2_; (try clear hb); (try clear hb2); (try clear hk); (try clear hi)) | ((with_reducible refine gate_callee (f := 158) rfl ?_); refine goesL_ (some 11) rfl rfl Try.func158 (by kernel_rfl) rfl #[.pointer (some ⟨g, 0, none⟩), .int .i64 t138] rfl lm ?_; (with_reducible refine (spec_l1Cur_sureTree.calls k g s0_0 t139 t140 t138 t141 t142 t143 w0 _ ?side1 ?side2 A4.out).mono ?_); (case side1 => exact lI78 HI0.out); (case side2 => exact lB HB.out); rintro e w9 ⟨rfl, hi, hb, hk⟩; refine ⟨_, rfl, ?_⟩; have n0_ := Aside0.mk (KeepBut.trans (lK HK.out) hk (.inl rfl)); have n1_ := Aside0.mk (hb); have n2_ := Aside0.mk (hi); clear HK HB HI0; have HK := n0_; have HB := n1_; have HI0 := n2_; clear n0_ n1_ n2_; (try clear hb); (try clear hb2); (try clear hk); (try clear hi)) | ((with_reducible refine gate_callee (f := 74) rfl ?_); refine goesL_ (some 13) rfl rfl Try.func74 (by kernel_rfl) rfl #[.pointer (some ⟨g, 0, none⟩), .int .i64 14] rfl lm ?_; (with_reducible refine (spec_l1Cur_pick.calls g s0_0 t142 t143 14 t144 t145 t146 w0 _ ?side1 ?side2 A5.out).mono ?_); (case side1 => exact lI78 HI0.out); (case side2 => exact lB HB.out); rintro e w10 ⟨rfl, hi, hb, hk⟩; refine ⟨_, rfl, ?_⟩; have n0_ := Aside0.mk (KeepBut.trans (lK HK.out) hk (.inl rfl)); have n1_ := Aside0.mk (hb); have n2_ := Aside0.mk (hi); clear HK HB HI0; have HK := n0_; have HB := n1_; have HI0 := n2_; clear n0_ n1_ n2_; (try clear hb); (try clear hb2); (try clear hk); (try clear hi)) | ((with_reducible refine gate_callee (f := 119) rfl ?_); refine goesL_ (some 18) rfl rfl Try.func119 (by kernel_rfl) rfl #[.pointer (some ⟨g, 0, none⟩), .string t141, .string (⟨#[40, 46, 41]⟩ : ByteArray)] rfl lm ?_; (with_reducible refine (spec_l1Cur_spoilt.calls k g s0_0 t145 t146 t141 (⟨#[40, 46, 41]⟩ : ByteArray) t147 t148 t149 w0 _ ?side1 ?side2 A7.out).mono ?_); (case side1 => exact lI78 HI0.out); (case side2 => exact lB HB.out); rintro e w11 ⟨rfl, hi, hb, hk⟩; refine ⟨_, rfl, ?_⟩; have n0_ := Aside0.mk (KeepBut.trans (lK HK.out) hk (.inl rfl)); have n1_ := Aside0.mk (hb); have n2_ := Aside0.mk (hi); clear HK HB HI0; have HK := n0_; have HB := n1_; have HI0 := n2_; clear n0_ n1_ n2_; (try clear hb); (try clear hb2); (try clear hk); (try clear hi)))
    go_ret
    exact ⟨lx, by exact lI78 HI0.out, by exact lB HB.out, by exact lK HK.out⟩
  rw [if_neg c6] at H
  have c6b0 : (t144 == 0) = false := beq_eq_false_iff_ne.mpr c6
  have c6b1 : (t144 != 0) = true := bne_iff_ne.mpr c6
  by_cases c12 : t144 = 1
  rotate_left
  · rw [if_neg c12] at H
    have c12b0 : (t144 == 1) = false := beq_eq_false_iff_ne.mpr c12
    have c12b1 : (t144 != 1) = true := bne_iff_ne.mpr c12
    simp only [Option.some.injEq, Prod.mk.injEq] at H
    obtain ⟨rfl, rfl, rfl⟩ := H
    go_enter Try.func118, Try.ntmps118
    go_wp2_with (first | ((with_reducible refine gate_callee (f := 74) rfl ?_); refine goesL_ (some 10) rfl rfl Try.func74 (by kernel_rfl) rfl #[.pointer (some ⟨g, 0, none⟩), .int .i64 (wrap64 (a1 + 1))] rfl lm ?_; (with_reducible refine (spec_l1Cur_pick.calls g s0_0 s0_1 s0_2 (wrap64 (a1 + 1)) t138 t139 t140 w0 _ ?side1 ?side2 A3.out).mono ?_); (case side1 => exact lI78 HI0.out); (case side2 => exact lB HB.out); rintro e w20 ⟨rfl, hi, hb, hk⟩; refine ⟨_, rfl, ?_⟩; have n0_ := Aside0.mk (KeepBut.trans (lK HK.out) hk (.inl rfl)); have n1_ := Aside0.mk (hb); have n2_ := Aside0.mk (hi); clear HK HB HI0; have HK := n0_; have HB := n1_; have HI0 := n2_; clear n0_ n1_ n2_; (try clear hb); (try clear hb2); (try clear hk); (try clear hi)) | ((with_reducible refine gate_callee (f := 158) rfl ?_); refine goesL_ (some 11) rfl rfl Try.func158 (by kernel_rfl) rfl #[.pointer (some ⟨g, 0, none⟩), .int .i64 t138] rfl lm ?_; (with_reducible refine (spec_l1Cur_sureTree.calls k g s0_0 t139 t140 t138 t141 t142 t143 w0 _ ?side1 ?side2 A4.out).mono ?_); (case side1 => exact lI78 HI0.out); (case side2 => exact lB HB.out); rintro e w21 ⟨rfl, hi, hb, hk⟩; refine ⟨_, rfl, ?_⟩; have n0_ := Aside0.mk (KeepBut.trans (lK HK.out) hk (.inl rfl)); have n1_ := Aside0.mk (hb); have n2_ := Aside0.mk (hi); clear HK HB HI0; have HK := n0_; have HB := n1_; have HI0 := n2_; clear n0_ n1_ n2_; (try clear hb); (try clear hb2); (try clear hk); (try clear hi)) | ((with_reducible refine gate_callee (f := 74) rfl ?_); refine goesL_ (some 13) rfl rfl Try.func74 (by kernel_rfl) rfl #[.pointer (some ⟨g, 0, none⟩), .int .i64 14] rfl lm ?_; (with_reducible refine (spec_l1Cur_pick.calls g s0_0 t142 t143 14 t144 t145 t146 w0 _ ?side1 ?side2 A5.out).mono ?_); (case side1 => exact lI78 HI0.out); (case side2 => exact lB HB.out); rintro e w22 ⟨rfl, hi, hb, hk⟩; refine ⟨_, rfl, ?_⟩; have n0_ := Aside0.mk (KeepBut.trans (lK HK.out) hk (.inl rfl)); have n1_ := Aside0.mk (hb); have n2_ := Aside0.mk (hi); clear HK HB HI0; have HK := n0_; have HB := n1_; have HI0 := n2_; clear n0_ n1_ n2_; (try clear hb); (try clear hb2); (try clear hk); (try clear hi)))
    go_ret
    exact ⟨lx, by exact lI78 HI0.out, by exact lB HB.out, by exact lK HK.out⟩

  rw [if_pos c12] at H
  have c12b0 : (t144 == 1) = true := beq_iff_eq.mpr c12
  have c12b1 : (t144 != 1) = false := bne_eq_false_iff_eq.mpr c12
  clear c12
  replace H := Option.bind_eq_some_iff.mp H
  obtain ⟨⟨t150, t151, t152⟩, A130, H⟩ := H
  replace H : ((spec_l1Cur_sureTree.f k s0_0 t151 t152 (wrap64 (8 + t150))).bind fun bt153 => (some (bt153.1, bt153.2.1, bt153.2.2))) = some (r1, r2, r3) := H
  have A13 := Aside0.mk A130
  clear A130
  replace H := Option.bind_eq_some_iff.mp H
  obtain ⟨⟨t153, t154, t155⟩, A140, H⟩ := H
  replace H : (some (t153, t154, t155)) = some (r1, r2, r3) := H
  have A14 := Aside0.mk A140
  clear A140
  simp only [Option.some.injEq, Prod.mk.injEq] at H
  obtain ⟨rfl, rfl, rfl⟩ := H
  go_enter Try.func118, Try.ntmps118
  go_wp2_with (first | ((with_reducible refine gate_callee (f := 74) rfl ?_); refine goesL_ (some 10) rfl rfl Try.func74 (by kernel_rfl) rfl #[.pointer (some ⟨g, 0, none⟩), .int .i64 (wrap64 (a1 + 1))] rfl lm ?_; (with_reducible refine (spec_l1Cur_pick.calls g s0_0 s0_1 s0_2 (wrap64 (a1 + 1)) t138 t139 t140 w0 _ ?side1 ?side2 A3.out).mono ?_); (case side1 => exact lI78 HI0.out); (case side2 => exact lB HB.out); rintro e w15 ⟨rfl, hi, hb, hk⟩; refine ⟨_, rfl, ?_⟩; have n0_ := Aside0.mk (KeepBut.trans (lK HK.out) hk (.inl rfl)); have n1_ := Aside0.mk (hb); have n2_ := Aside0.mk (hi); clear HK HB HI0; have HK := n0_; have HB := n1_; have HI0 := n2_; clear n0_ n1_ n2_; (try clear hb); (try clear hb2); (try clear hk); (try clear hi)) | ((with_reducible refine gate_callee (f := 158) rfl ?_); refine goesL_ (some 11) rfl rfl Try.func158 (by kernel_rfl) rfl #[.pointer (some ⟨g, 0, none⟩), .int .i64 t138] rfl lm ?_; (with_reducible refine (spec_l1Cur_sureTree.calls k g s0_0 t139 t140 t138 t141 t142 t143 w0 _ ?side1 ?side2 A4.out).mono ?_); (case side1 => exact lI78 HI0.out); (case side2 => exact lB HB.out); rintro e w16 ⟨rfl, hi, hb, hk⟩; refine ⟨_, rfl, ?_⟩; have n0_ := Aside0.mk (KeepBut.trans (lK HK.out) hk (.inl rfl)); have n1_ := Aside0.mk (hb); have n2_ := Aside0.mk (hi); clear HK HB HI0; have HK := n0_; have HB := n1_; have HI0 := n2_; clear n0_ n1_ n2_; (try clear hb); (try clear hb2); (try clear hk); (try clear hi)) | ((with_reducible refine gate_callee (f := 74) rfl ?_); refine goesL_ (some 13) rfl rfl Try.func74 (by kernel_rfl) rfl #[.pointer (some ⟨g, 0, none⟩), .int .i64 14] rfl lm ?_; (with_reducible refine (spec_l1Cur_pick.calls g s0_0 t142 t143 14 t144 t145 t146 w0 _ ?side1 ?side2 A5.out).mono ?_); (case side1 => exact lI78 HI0.out); (case side2 => exact lB HB.out); rintro e w17 ⟨rfl, hi, hb, hk⟩; refine ⟨_, rfl, ?_⟩; have n0_ := Aside0.mk (KeepBut.trans (lK HK.out) hk (.inl rfl)); have n1_ := Aside0.mk (hb); have n2_ := Aside0.mk (hi); clear HK HB HI0; have HK := n0_; have HB := n1_; have HI0 := n2_; clear n0_ n1_ n2_; (try clear hb); (try clear hb2); (try clear hk); (try clear hi)) | ((with_reducible refine gate_callee (f := 74) rfl ?_); refine goesL_ (some 23) rfl rfl Try.func74 (by kernel_rfl) rfl #[.pointer (some ⟨g, 0, none⟩), .int .i64 2] rfl lm ?_; (with_reducible refine (spec_l1Cur_pick.calls g s0_0 t145 t146 2 t150 t151 t152 w0 _ ?side1 ?side2 A13.out).mono ?_); (case side1 => exact lI78 HI0.out); (case side2 => exact lB HB.out); rintro e w18 ⟨rfl, hi, hb, hk⟩; refine ⟨_, rfl, ?_⟩; have n0_ := Aside0.mk (KeepBut.trans (lK HK.out) hk (.inl rfl)); have n1_ := Aside0.mk (hb); have n2_ := Aside0.mk (hi); clear HK HB HI0; have HK := n0_; have HB := n1_; have HI0 := n2_; clear n0_ n1_ n2_; (try clear hb); (try clear hb2); (try clear hk); (try clear hi)) | ((with_reducible refine gate_callee (f := 158) rfl ?_); refine goesL_ (some 25) rfl rfl Try.func158 (by kernel_rfl) rfl #[.pointer (some ⟨g, 0, none⟩), .int .i64 (wrap64 (8 + t150))] rfl lm ?_; (with_reducible refine (spec_l1Cur_sureTree.calls k g s0_0 t151 t152 (wrap64 (8 + t150)) t153 t154 t155 w0 _ ?side1 ?side2 A14.out).mono ?_); (case side1 => exact lI78 HI0.out); (case side2 => exact lB HB.out); rintro e w19 ⟨rfl, hi, hb, hk⟩; refine ⟨_, rfl, ?_⟩; have n0_ := Aside0.mk (KeepBut.trans (lK HK.out) hk (.inl rfl)); have n1_ := Aside0.mk (hb); have n2_ := Aside0.mk (hi); clear HK HB HI0; have HK := n0_; have HB := n1_; have HI0 := n2_; clear n0_ n1_ n2_; (try clear hb); (try clear hb2); (try clear hk); (try clear hi)))
  go_ret
  exact ⟨lx, by exact lI78 HI0.out, by exact lB HB.out, by exact lK HK.out⟩
def spec_l1Cur_twoTrees.f (k : Nat) (s0_0 : List Int) (s0_1 : Int) (s0_2 : Int) (a1 : Int) : Option (ByteArray × ByteArray × Int × Int) := (spec_l1Cur_one.f s0_0 s0_1 s0_2 8).bind fun bt156 => (if bt156.1 = true then ((spec_l1Cur_tree.f k s0_0 bt156.2.1 bt156.2.2 a1).bind fun bt159 => ((spec_l1Cur_tree.f k s0_0 bt159.2.1 bt159.2.2 a1).bind fun bt162 => (some (bt159.1, bt162.1, bt162.2.1, bt162.2.2)))) else ((spec_l1Cur_pick.f s0_0 bt156.2.1 bt156.2.2 (wrap64 (a1 + 1))).bind fun bt165 => ((spec_l1Cur_surePair.f k s0_0 bt165.2.1 bt165.2.2 bt165.1).bind fun bt168 => (some (bt168.1, bt168.2.1, bt168.2.2.1, bt168.2.2.2)))))
theorem spec_l1Cur_twoTrees.mono : ∀ a0 a1 a2 a3 k, LeO (spec_l1Cur_twoTrees.f k a0 a1 a2 a3) (spec_l1Cur_twoTrees.f (k + 1) a0 a1 a2 a3) := by
  intro a0 a1 a2 a3 k
  unfold spec_l1Cur_twoTrees.f
  repeat' first
      | (with_reducible exact spec_l1Cur_surePair.mono _ _ _ _ _)
      | (with_reducible exact spec_l1Cur_tree.mono _ _ _ _ _)
      | (with_reducible exact LeO.refl _)
      | (with_reducible exact LeO.none _)
      | (with_reducible refine LeO.ite ?_ ?_)
      | (with_reducible refine LeO.bind ?_ (fun _ => ?_))
      | exact spec_l1Cur_surePair.mono _ _ _ _ _
      | exact spec_l1Cur_tree.mono _ _ _ _ _
      | exact LeO.none _
      | refine LeO.ite ?_ ?_
      | refine LeO.bind ?_ (fun _ => ?_)
set_option maxHeartbeats 8000000 in
set_option maxRecDepth 100000 in
theorem spec_l1Cur_twoTrees.calls (k : Nat) (g : Nat) (s0_0 : List Int) (s0_1 : Int) (s0_2 : Int) (a1 : Int) (r1 : ByteArray) (r2 : ByteArray) (r3 : Int) (r4 : Int) (w0 w : World) (hI : IsS78 w0 w g s0_0 s0_1 s0_2) (hB : Below w0.heap.size w0 w) (h : spec_l1Cur_twoTrees.f k s0_0 s0_1 s0_2 a1 = some (r1, r2, r3, r4)) :
    Calls Try.prog 95 #[.pointer (some ⟨g, 0, none⟩), .int .i64 a1] w fun e w' => e = .returned (.tuple #[.string r1, .string r2]) ∧ IsS78 w0 w' g s0_0 r3 r4 ∧ Below w0.heap.size w0 w' ∧ KeepBut w w' g none := by
  have hu25 := Try.underlying25
  have HI0 := Aside0.mk hI
  have HK := Aside0.mk (KeepBut.refl w g none)
  have HL := Aside0.mk hB.size
  clear hI
  have HW0 := Aside0.mk hB.size
  have HB := Aside0.mk hB
  clear hB
  have H : ((spec_l1Cur_one.f s0_0 s0_1 s0_2 8).bind fun bt156 => (if bt156.1 = true then ((spec_l1Cur_tree.f k s0_0 bt156.2.1 bt156.2.2 a1).bind fun bt159 => ((spec_l1Cur_tree.f k s0_0 bt159.2.1 bt159.2.2 a1).bind fun bt162 => (some (bt159.1, bt162.1, bt162.2.1, bt162.2.2)))) else ((spec_l1Cur_pick.f s0_0 bt156.2.1 bt156.2.2 (wrap64 (a1 + 1))).bind fun bt165 => ((spec_l1Cur_surePair.f k s0_0 bt165.2.1 bt165.2.2 bt165.1).bind fun bt168 => (some (bt168.1, bt168.2.1, bt168.2.2.1, bt168.2.2.2)))))) = some (r1, r2, r3, r4) := h
  clear h
  replace H := Option.bind_eq_some_iff.mp H
  obtain ⟨⟨t156, t157, t158⟩, A30, H⟩ := H
  replace H : (if t156 = true then ((spec_l1Cur_tree.f k s0_0 t157 t158 a1).bind fun bt159 => ((spec_l1Cur_tree.f k s0_0 bt159.2.1 bt159.2.2 a1).bind fun bt162 => (some (bt159.1, bt162.1, bt162.2.1, bt162.2.2)))) else ((spec_l1Cur_pick.f s0_0 t157 t158 (wrap64 (a1 + 1))).bind fun bt165 => ((spec_l1Cur_surePair.f k s0_0 bt165.2.1 bt165.2.2 bt165.1).bind fun bt168 => (some (bt168.1, bt168.2.1, bt168.2.2.1, bt168.2.2.2))))) = some (r1, r2, r3, r4) := H
  have A3 := Aside0.mk A30
  clear A30
  by_cases c4 : t156 = true
  · subst c4
    rw [if_pos rfl] at H
    replace H := Option.bind_eq_some_iff.mp H
    obtain ⟨⟨t159, t160, t161⟩, A50, H⟩ := H
    replace H : ((spec_l1Cur_tree.f k s0_0 t160 t161 a1).bind fun bt162 => (some (t159, bt162.1, bt162.2.1, bt162.2.2))) = some (r1, r2, r3, r4) := H
    have A5 := Aside0.mk A50
    clear A50
    replace H := Option.bind_eq_some_iff.mp H
    obtain ⟨⟨t162, t163, t164⟩, A60, H⟩ := H
    replace H : (some (t159, t162, t163, t164)) = some (r1, r2, r3, r4) := H
    have A6 := Aside0.mk A60
    clear A60
    simp only [Option.some.injEq, Prod.mk.injEq] at H
    obtain ⟨rfl, rfl, rfl, rfl⟩ := H
    go_enter Try.func95, Try.ntmps95
    go_wp2_with (first | (go_at_call 71; (with_reducible refine (spec_l1Cur_one.calls g s0_0 s0_1 s0_2 8 true t157 t158 w0 _ ?side1 ?side2 A3.out).mono ?_); (case side1 => exact lI78 HI0.out); (case side2 => exact lB HB.out); rintro e w7 ⟨rfl, hi, hb, hk⟩; have n0_ := Aside0.mk (KeepBut.trans (lK HK.out) hk (.inl rfl)); have n1_ := Aside0.mk (hb); have n2_ := Aside0.mk (hi); clear HK HB HI0; have HK := n0_; have HB := n1_; have HI0 := n2_; clear n0_ n1_ n2_; (try clear hb); (try clear hb2); (try clear hk); (try clear hi)) | (go_at_call 118; (with_reducible refine (spec_l1Cur_tree.calls k g s0_0 t157 t158 a1 t159 t160 t161 w0 _ ?side1 ?side2 A5.out).mono ?_); (case side1 => exact lI78 HI0.out); (case side2 => exact lB HB.out); rintro e w8 ⟨rfl, hi, hb, hk⟩; have n0_ := Aside0.mk (KeepBut.trans (lK HK.out) hk (.inl rfl)); have n1_ := Aside0.mk (hb); have n2_ := Aside0.mk (hi); clear HK HB HI0; have HK := n0_; have HB := n1_; have HI0 := n2_; clear n0_ n1_ n2_; (try clear hb); (try clear hb2); (try clear hk); (try clear hi)) | (go_at_call 118; (with_reducible refine (spec_l1Cur_tree.calls k g s0_0 t160 t161 a1 t162 t163 t164 w0 _ ?side1 ?side2 A6.out).mono ?_); (case side1 => exact lI78 HI0.out); (case side2 => exact lB HB.out); rintro e w9 ⟨rfl, hi, hb, hk⟩; have n0_ := Aside0.mk (KeepBut.trans (lK HK.out) hk (.inl rfl)); have n1_ := Aside0.mk (hb); have n2_ := Aside0.mk (hi); clear HK HB HI0; have HK := n0_; have HB := n1_; have HI0 := n2_; clear n0_ n1_ n2_; (try clear hb); (try clear hb2); (try clear hk); (try clear hi)))
    repeat (go_quiet (first | (go_at_call 71; (with_reducible refine (spec_l1Cur_one.calls g s0_0 s0_1 s0_2 8 true t157 t158 w0 _ ?side1 ?side2 A3.out).mono ?_); (case side1 => exact lI78 HI0.out); (case side2 => exact lB HB.out); rintro e w7 ⟨rfl, hi, hb, hk⟩; have n0_ := Aside0.mk (KeepBut.trans (lK HK.out) hk (.inl rfl)); have n1_ := Aside0.mk (hb); have n2_ := Aside0.mk (hi); clear HK HB HI0; have HK := n0_; have HB := n1_; have HI0 := n2_; clear n0_ n1_ n2_; (try clear hb); (try clear hb2); (try clear hk); (try clear hi)) | (go_at_call 118; (with_reducible refine (spec_l1Cur_tree.calls k g s0_0 t157 t158 a1 t159 t160 t161 w0 _ ?side1 ?side2 A5.out).mono ?_); (case side1 => exact lI78 HI0.out); (case side2 => exact lB HB.out); rintro e w8 ⟨rfl, hi, hb, hk⟩; have n0_ := Aside0.mk (KeepBut.trans (lK HK.out) hk (.inl rfl)); have n1_ := Aside0.mk (hb); have n2_ := Aside0.mk (hi); clear HK HB HI0; have HK := n0_; have HB := n1_; have HI0 := n2_; clear n0_ n1_ n2_; (try clear hb); (try clear hb2); (try clear hk); (try clear hi)) | (go_at_call 118; (with_reducible refine (spec_l1Cur_tree.calls k g s0_0 t160 t161 a1 t162 t163 t164 w0 _ ?side1 ?side2 A6.out).mono ?_); (case side1 => exact lI78 HI0.out); (case side2 => exact lB HB.out); rintro e w9 ⟨rfl, hi, hb, hk⟩; have n0_ := Aside0.mk (KeepBut.trans (lK HK.out) hk (.inl rfl)); have n1_ := Aside0.mk (hb); have n2_ := Aside0.mk (hi); clear HK HB HI0; have HK := n0_; have HB := n1_; have HI0 := n2_; clear n0_ n1_ n2_; (try clear hb); (try clear hb2); (try clear hk); (try clear hi))); try go_wp2_with (first | (go_at_call 71; (with_reducible refine (spec_l1Cur_one.calls g s0_0 s0_1 s0_2 8 true t157 t158 w0 _ ?side1 ?side2 A3.out).mono ?_); (case side1 => exact lI78 HI0.out); (case side2 => exact lB HB.out); rintro e w7 ⟨rfl, hi, hb, hk⟩; have n0_ := Aside0.mk (KeepBut.trans (lK HK.out) hk (.inl rfl)); have n1_ := Aside0.mk (hb); have n2_ := Aside0.mk (hi); clear HK HB HI0; have HK := n0_; have HB := n1_; have HI0 := n2_; clear n0_ n1_ n2_; (try clear hb); (try clear hb2); (try clear hk); (try clear hi)) | (go_at_call 118; (with_reducible refine (spec_l1Cur_tree.calls k g s0_0 t157 t158 a1 t159 t160 t161 w0 _ ?side1 ?side2 A5.out).mono ?_); (case side1 => exact lI78 HI0.out); (case side2 => exact lB HB.out); rintro e w8 ⟨rfl, hi, hb, hk⟩; have n0_ := Aside0.mk (KeepBut.trans (lK HK.out) hk (.inl rfl)); have n1_ := Aside0.mk (hb); have n2_ := Aside0.mk (hi); clear HK HB HI0; have HK := n0_; have HB := n1_; have HI0 := n2_; clear n0_ n1_ n2_; (try clear hb); (try clear hb2); (try clear hk); (try clear hi)) | (go_at_call 118; (with_reducible refine (spec_l1Cur_tree.calls k g s0_0 t160 t161 a1 t162 t163 t164 w0 _ ?side1 ?side2 A6.out).mono ?_); (case side1 => exact lI78 HI0.out); (case side2 => exact lB HB.out); rintro e w9 ⟨rfl, hi, hb, hk⟩; have n0_ := Aside0.mk (KeepBut.trans (lK HK.out) hk (.inl rfl)); have n1_ := Aside0.mk (hb); have n2_ := Aside0.mk (hi); clear HK HB HI0; have HK := n0_; have HB := n1_; have HI0 := n2_; clear n0_ n1_ n2_; (try clear hb); (try clear hb2); (try clear hk); (try clear hi))))
    go_ret2
    exact ⟨lx, by exact lI78 HI0.out, by exact lB HB.out, by exact lK HK.out⟩
  replace c4 := Bool.eq_false_iff.mpr c4
  subst c4
  rw [if_neg (show ¬ (false = true) by decide)] at H
  replace H := Option.bind_eq_some_iff.mp H
  obtain ⟨⟨t165, t166, t167⟩, A100, H⟩ := H
  replace H : ((spec_l1Cur_surePair.f k s0_0 t166 t167 t165).bind fun bt168 => (some (bt168.1, bt168.2.1, bt168.2.2.1, bt168.2.2.2))) = some (r1, r2, r3, r4) := H
  have A10 := Aside0.mk A100
  clear A100
  replace H := Option.bind_eq_some_iff.mp H
  obtain ⟨⟨t168, t169, t170, t171⟩, A110, H⟩ := H
  replace H : (some (t168, t169, t170, t171)) = some (r1, r2, r3, r4) := H
  have A11 := Aside0.mk A110
  clear A110
  simp only [Option.some.injEq, Prod.mk.injEq] at H
  obtain ⟨rfl, rfl, rfl, rfl⟩ := H
  go_enter Try.func95, Try.ntmps95
  go_wp2_with (first | (go_at_call 71; (with_reducible refine (spec_l1Cur_one.calls g s0_0 s0_1 s0_2 8 false t157 t158 w0 _ ?side1 ?side2 A3.out).mono ?_); (case side1 => exact lI78 HI0.out); (case side2 => exact lB HB.out); rintro e w12 ⟨rfl, hi, hb, hk⟩; have n0_ := Aside0.mk (KeepBut.trans (lK HK.out) hk (.inl rfl)); have n1_ := Aside0.mk (hb); have n2_ := Aside0.mk (hi); clear HK HB HI0; have HK := n0_; have HB := n1_; have HI0 := n2_; clear n0_ n1_ n2_; (try clear hb); (try clear hb2); (try clear hk); (try clear hi)) | (go_at_call 74; (with_reducible refine (spec_l1Cur_pick.calls g s0_0 t157 t158 (wrap64 (a1 + 1)) t165 t166 t167 w0 _ ?side1 ?side2 A10.out).mono ?_); (case side1 => exact lI78 HI0.out); (case side2 => exact lB HB.out); rintro e w13 ⟨rfl, hi, hb, hk⟩; have n0_ := Aside0.mk (KeepBut.trans (lK HK.out) hk (.inl rfl)); have n1_ := Aside0.mk (hb); have n2_ := Aside0.mk (hi); clear HK HB HI0; have HK := n0_; have HB := n1_; have HI0 := n2_; clear n0_ n1_ n2_; (try clear hb); (try clear hb2); (try clear hk); (try clear hi)) | (go_at_call 117; (with_reducible refine (spec_l1Cur_surePair.calls k g s0_0 t166 t167 t165 t168 t169 t170 t171 w0 _ ?side1 ?side2 A11.out).mono ?_); (case side1 => exact lI78 HI0.out); (case side2 => exact lB HB.out); rintro e w14 ⟨rfl, hi, hb, hk⟩; have n0_ := Aside0.mk (KeepBut.trans (lK HK.out) hk (.inl rfl)); have n1_ := Aside0.mk (hb); have n2_ := Aside0.mk (hi); clear HK HB HI0; have HK := n0_; have HB := n1_; have HI0 := n2_; clear n0_ n1_ n2_; (try clear hb); (try clear hb2); (try clear hk); (try clear hi)) | ((with_reducible refine gate_dst (N := 6) rfl ?_); refine box_event ?hg (N := 6) ?hd (cs := #[.string (⟨#[]⟩ : ByteArray), .string (⟨#[]⟩ : ByteArray)]) (t := 25) ?hr ?_; (case hd => rfl); (case hg => rfl); (case hr => exact lr); intro gb172 hg w15 hbox hb; have n0_ := Aside0.mk (IsS78.below (lI78 HI0.out) hb); have n1_ := Aside0.mk (KeepBut.trans (lK HK.out) (KeepBut.of_below hb g none) (.inl rfl)); have n2_ := Aside0.mk (below_step (lB HB.out) hb); have n3_ := Aside0.mk (hbox); have n4_ := Aside0.mk ((by rw [hg]; exact (keep_size (w := w) (g := g) (row := none) (lK HK.out)) : w.heap.size ≤ gb172)); have n5_ := Aside0.mk ((Nat.le_trans HW0.out (by rw [hg]; exact (keep_size (w := w) (g := g) (row := none) (lK HK.out)) : w.heap.size ≤ gb172) : w0.heap.size ≤ gb172)); have n6_ := Aside0.mk ((by rw [hg]; exact Nat.ne_of_lt (IsS78.lt (show IsS78 w0 _ g s0_0 t170 t171 from by exact lI78 HI0.out)) : g ≠ gb172)); have n7_ := Aside0.mk ((by rw [hg]; exact Nat.ne_of_gt (IsS78.lt (show IsS78 w0 _ g s0_0 t170 t171 from by exact lI78 HI0.out)) : gb172 ≠ g)); clear HI0 HK HB; have HI0 := n0_; have HK := n1_; have HB := n2_; have BK172 := n3_; have GW172 := n4_; have GE172 := n5_; have NB0_172 := n6_; have NB172_0 := n7_; clear n0_ n1_ n2_ n3_ n4_ n5_ n6_ n7_; clear hb hbox hg; have hnb16 := NB172_0.out; have hnc16 := NB0_172.out; have hcz17_0 : w15.cell? ⟨gb172, 0, none⟩ = some (.string (⟨#[]⟩ : ByteArray)) := (blk_cell BK172.out 0).trans rfl; have hcz17_1 : w15.cell? ⟨gb172, 1, none⟩ = some (.string (⟨#[]⟩ : ByteArray)) := (blk_cell BK172.out 1).trans rfl; have hfz17_0 := blk_frozen BK172.out 0; have hfz17_1 := blk_frozen BK172.out 1))
  repeat (go_quiet (first | (go_at_call 71; (with_reducible refine (spec_l1Cur_one.calls g s0_0 s0_1 s0_2 8 false t157 t158 w0 _ ?side1 ?side2 A3.out).mono ?_); (case side1 => exact lI78 HI0.out); (case side2 => exact lB HB.out); rintro e w12 ⟨rfl, hi, hb, hk⟩; have n0_ := Aside0.mk (KeepBut.trans (lK HK.out) hk (.inl rfl)); have n1_ := Aside0.mk (hb); have n2_ := Aside0.mk (hi); clear HK HB HI0; have HK := n0_; have HB := n1_; have HI0 := n2_; clear n0_ n1_ n2_; (try clear hb); (try clear hb2); (try clear hk); (try clear hi)) | (go_at_call 74; (with_reducible refine (spec_l1Cur_pick.calls g s0_0 t157 t158 (wrap64 (a1 + 1)) t165 t166 t167 w0 _ ?side1 ?side2 A10.out).mono ?_); (case side1 => exact lI78 HI0.out); (case side2 => exact lB HB.out); rintro e w13 ⟨rfl, hi, hb, hk⟩; have n0_ := Aside0.mk (KeepBut.trans (lK HK.out) hk (.inl rfl)); have n1_ := Aside0.mk (hb); have n2_ := Aside0.mk (hi); clear HK HB HI0; have HK := n0_; have HB := n1_; have HI0 := n2_; clear n0_ n1_ n2_; (try clear hb); (try clear hb2); (try clear hk); (try clear hi)) | (go_at_call 117; (with_reducible refine (spec_l1Cur_surePair.calls k g s0_0 t166 t167 t165 t168 t169 t170 t171 w0 _ ?side1 ?side2 A11.out).mono ?_); (case side1 => exact lI78 HI0.out); (case side2 => exact lB HB.out); rintro e w14 ⟨rfl, hi, hb, hk⟩; have n0_ := Aside0.mk (KeepBut.trans (lK HK.out) hk (.inl rfl)); have n1_ := Aside0.mk (hb); have n2_ := Aside0.mk (hi); clear HK HB HI0; have HK := n0_; have HB := n1_; have HI0 := n2_; clear n0_ n1_ n2_; (try clear hb); (try clear hb2); (try clear hk); (try clear hi)) | ((with_reducible refine gate_dst (N := 6) rfl ?_); refine box_event ?hg (N := 6) ?hd (cs := #[.string (⟨#[]⟩ : ByteArray), .string (⟨#[]⟩ : ByteArray)]) (t := 25) ?hr ?_; (case hd => rfl); (case hg => rfl); (case hr => exact lr); intro gb172 hg w15 hbox hb; have n0_ := Aside0.mk (IsS78.below (lI78 HI0.out) hb); have n1_ := Aside0.mk (KeepBut.trans (lK HK.out) (KeepBut.of_below hb g none) (.inl rfl)); have n2_ := Aside0.mk (below_step (lB HB.out) hb); have n3_ := Aside0.mk (hbox); have n4_ := Aside0.mk ((by rw [hg]; exact (keep_size (w := w) (g := g) (row := none) (lK HK.out)) : w.heap.size ≤ gb172)); have n5_ := Aside0.mk ((Nat.le_trans HW0.out (by rw [hg]; exact (keep_size (w := w) (g := g) (row := none) (lK HK.out)) : w.heap.size ≤ gb172) : w0.heap.size ≤ gb172)); have n6_ := Aside0.mk ((by rw [hg]; exact Nat.ne_of_lt (IsS78.lt (show IsS78 w0 _ g s0_0 t170 t171 from by exact lI78 HI0.out)) : g ≠ gb172)); have n7_ := Aside0.mk ((by rw [hg]; exact Nat.ne_of_gt (IsS78.lt (show IsS78 w0 _ g s0_0 t170 t171 from by exact lI78 HI0.out)) : gb172 ≠ g)); clear HI0 HK HB; have HI0 := n0_; have HK := n1_; have HB := n2_; have BK172 := n3_; have GW172 := n4_; have GE172 := n5_; have NB0_172 := n6_; have NB172_0 := n7_; clear n0_ n1_ n2_ n3_ n4_ n5_ n6_ n7_; clear hb hbox hg; have hnb16 := NB172_0.out; have hnc16 := NB0_172.out; have hcz17_0 : w15.cell? ⟨gb172, 0, none⟩ = some (.string (⟨#[]⟩ : ByteArray)) := (blk_cell BK172.out 0).trans rfl; have hcz17_1 : w15.cell? ⟨gb172, 1, none⟩ = some (.string (⟨#[]⟩ : ByteArray)) := (blk_cell BK172.out 1).trans rfl; have hfz17_0 := blk_frozen BK172.out 0; have hfz17_1 := blk_frozen BK172.out 1)); try go_wp2_with (first | (go_at_call 71; (with_reducible refine (spec_l1Cur_one.calls g s0_0 s0_1 s0_2 8 false t157 t158 w0 _ ?side1 ?side2 A3.out).mono ?_); (case side1 => exact lI78 HI0.out); (case side2 => exact lB HB.out); rintro e w12 ⟨rfl, hi, hb, hk⟩; have n0_ := Aside0.mk (KeepBut.trans (lK HK.out) hk (.inl rfl)); have n1_ := Aside0.mk (hb); have n2_ := Aside0.mk (hi); clear HK HB HI0; have HK := n0_; have HB := n1_; have HI0 := n2_; clear n0_ n1_ n2_; (try clear hb); (try clear hb2); (try clear hk); (try clear hi)) | (go_at_call 74; (with_reducible refine (spec_l1Cur_pick.calls g s0_0 t157 t158 (wrap64 (a1 + 1)) t165 t166 t167 w0 _ ?side1 ?side2 A10.out).mono ?_); (case side1 => exact lI78 HI0.out); (case side2 => exact lB HB.out); rintro e w13 ⟨rfl, hi, hb, hk⟩; have n0_ := Aside0.mk (KeepBut.trans (lK HK.out) hk (.inl rfl)); have n1_ := Aside0.mk (hb); have n2_ := Aside0.mk (hi); clear HK HB HI0; have HK := n0_; have HB := n1_; have HI0 := n2_; clear n0_ n1_ n2_; (try clear hb); (try clear hb2); (try clear hk); (try clear hi)) | (go_at_call 117; (with_reducible refine (spec_l1Cur_surePair.calls k g s0_0 t166 t167 t165 t168 t169 t170 t171 w0 _ ?side1 ?side2 A11.out).mono ?_); (case side1 => exact lI78 HI0.out); (case side2 => exact lB HB.out); rintro e w14 ⟨rfl, hi, hb, hk⟩; have n0_ := Aside0.mk (KeepBut.trans (lK HK.out) hk (.inl rfl)); have n1_ := Aside0.mk (hb); have n2_ := Aside0.mk (hi); clear HK HB HI0; have HK := n0_; have HB := n1_; have HI0 := n2_; clear n0_ n1_ n2_; (try clear hb); (try clear hb2); (try clear hk); (try clear hi)) | ((with_reducible refine gate_dst (N := 6) rfl ?_); refine box_event ?hg (N := 6) ?hd (cs := #[.string (⟨#[]⟩ : ByteArray), .string (⟨#[]⟩ : ByteArray)]) (t := 25) ?hr ?_; (case hd => rfl); (case hg => rfl); (case hr => exact lr); intro gb172 hg w15 hbox hb; have n0_ := Aside0.mk (IsS78.below (lI78 HI0.out) hb); have n1_ := Aside0.mk (KeepBut.trans (lK HK.out) (KeepBut.of_below hb g none) (.inl rfl)); have n2_ := Aside0.mk (below_step (lB HB.out) hb); have n3_ := Aside0.mk (hbox); have n4_ := Aside0.mk ((by rw [hg]; exact (keep_size (w := w) (g := g) (row := none) (lK HK.out)) : w.heap.size ≤ gb172)); have n5_ := Aside0.mk ((Nat.le_trans HW0.out (by rw [hg]; exact (keep_size (w := w) (g := g) (row := none) (lK HK.out)) : w.heap.size ≤ gb172) : w0.heap.size ≤ gb172)); have n6_ := Aside0.mk ((by rw [hg]; exact Nat.ne_of_lt (IsS78.lt (show IsS78 w0 _ g s0_0 t170 t171 from by exact lI78 HI0.out)) : g ≠ gb172)); have n7_ := Aside0.mk ((by rw [hg]; exact Nat.ne_of_gt (IsS78.lt (show IsS78 w0 _ g s0_0 t170 t171 from by exact lI78 HI0.out)) : gb172 ≠ g)); clear HI0 HK HB; have HI0 := n0_; have HK := n1_; have HB := n2_; have BK172 := n3_; have GW172 := n4_; have GE172 := n5_; have NB0_172 := n6_; have NB172_0 := n7_; clear n0_ n1_ n2_ n3_ n4_ n5_ n6_ n7_; clear hb hbox hg; have hnb16 := NB172_0.out; have hnc16 := NB0_172.out; have hcz17_0 : w15.cell? ⟨gb172, 0, none⟩ = some (.string (⟨#[]⟩ : ByteArray)) := (blk_cell BK172.out 0).trans rfl; have hcz17_1 : w15.cell? ⟨gb172, 1, none⟩ = some (.string (⟨#[]⟩ : ByteArray)) := (blk_cell BK172.out 1).trans rfl; have hfz17_0 := blk_frozen BK172.out 0; have hfz17_1 := blk_frozen BK172.out 1)))
  go_ret2
  exact ⟨lx, by exact lI78 HI0.out, by exact lB HB.out, by exact lK HK.out⟩
def spec_DrawChainBetween.f (k : Nat) (l0 : List Int) : Option (ByteArray × ByteArray) := (spec_l1Cur_twoTrees.f k l0 0 0 6).bind fun bt174 => (some (bt174.1, bt174.2.1))
theorem spec_DrawChainBetween.mono : ∀ a0 k, LeO (spec_DrawChainBetween.f k a0) (spec_DrawChainBetween.f (k + 1) a0) := by
  intro a0 k
  unfold spec_DrawChainBetween.f
  repeat' first
      | (with_reducible exact spec_l1Cur_twoTrees.mono _ _ _ _ _)
      | (with_reducible exact LeO.refl _)
      | (with_reducible exact LeO.none _)
      | (with_reducible refine LeO.ite ?_ ?_)
      | (with_reducible refine LeO.bind ?_ (fun _ => ?_))
      | exact spec_l1Cur_twoTrees.mono _ _ _ _ _
      | exact LeO.none _
      | refine LeO.ite ?_ ?_
      | refine LeO.bind ?_ (fun _ => ?_)
set_option maxHeartbeats 8000000 in
set_option maxRecDepth 100000 in
theorem spec_DrawChainBetween.calls (k : Nat) (A0 : Option Addr) (c0 : Nat) (l0 : List Int) (r1 : ByteArray) (r2 : ByteArray) (w : World) (hr0 : Kd.C (Kd.int .u8) w A0 l0.length l0) (hc0 : l0.length ≤ c0) (h : spec_DrawChainBetween.f k l0 = some (r1, r2)) :
    Calls Try.prog 31 #[.slice A0 l0.length c0] w fun e w' => e = .returned (.tuple #[.string r1, .string r2]) ∧ Below w.heap.size w w' := by
  have hu78 := Try.underlying78
  have HR0 := Aside0.mk hr0
  have HC0 := Aside0.mk hc0
  clear hr0 hc0
  have HB := Aside0.mk (Below.refl w.heap.size w)
  have H : ((spec_l1Cur_twoTrees.f k l0 0 0 6).bind fun bt174 => (some (bt174.1, bt174.2.1))) = some (r1, r2) := h
  clear h
  replace H := Option.bind_eq_some_iff.mp H
  obtain ⟨⟨t174, t175, t176, t177⟩, A20, H⟩ := H
  replace H : (some (t174, t175)) = some (r1, r2) := H
  have A2 := Aside0.mk A20
  clear A20
  simp only [Option.some.injEq, Prod.mk.injEq] at H
  obtain ⟨rfl, rfl⟩ := H
  go_enter Try.func31, Try.ntmps31
  go_wp2_with (first | ((with_reducible refine gate_dst (N := 7) rfl ?_); refine box_event ?hg (N := 7) ?hd (cs := #[.slice A0 l0.length c0, .int .i64 0, .int .u64 0]) (t := 78) ?hr ?_; (case hd => rfl); (case hg => rfl); (case hr => exact lr); intro gb173 hg w3 hbox hb; have n0_ := Aside0.mk (below_step (lB HB.out) hb); have n1_ := gw hg (lB HB.out); have n2_ := gw hg (lB HB.out); have n3_ := Aside0.mk ((show IsS78 w w3 gb173 l0 0 0 from ⟨_, _, hbox, (by rw [hg]; exact (below_size (lB HB.out)) : w.heap.size ≤ gb173), HR0.out⟩)); clear HB; have HB := n0_; have GW173 := n1_; have GE173 := n2_; have HI173 := n3_; clear n0_ n1_ n2_ n3_; clear hb hbox hg) | ((with_reducible refine gate_callee (f := 95) rfl ?_); refine goesL_ (some 9) rfl rfl Try.func95 (by kernel_rfl) rfl #[.pointer (some ⟨gb173, 0, none⟩), .int .i64 6] rfl lm ?_; (with_reducible refine (spec_l1Cur_twoTrees.calls k gb173 l0 0 0 6 t174 t175 t176 t177 w _ ?side1 ?side2 A2.out).mono ?_); (case side1 => exact lI78 HI173.out); (case side2 => exact lB HB.out); rintro e w4 ⟨rfl, hi, hb, hk⟩; refine ⟨_, rfl, ?_⟩; have n0_ := Aside0.mk (hb); have n1_ := Aside0.mk (hi); clear HB HI173; have HB := n0_; have HI173 := n1_; clear n0_ n1_; (try clear hb); (try clear hb2); (try clear hk); (try clear hi)))
  go_ret2
  exact ⟨lx, by exact lB HB.out⟩
def laws_fSameMap.f (a0_0 : ByteArray) (a0_1 : ByteArray) (a1_0 : ByteArray) (a1_1 : ByteArray) : Option (Bool) := (impl_AreSamePairs.f a0_0 a0_1 a1_0 a1_1).bind fun bt183 => (if bt183.2 = true then (some bt183.1) else (some false))
set_option maxHeartbeats 8000000 in
set_option maxRecDepth 100000 in
theorem laws_fSameMap.calls (a0_0 : ByteArray) (a0_1 : ByteArray) (a1_0 : ByteArray) (a1_1 : ByteArray) (r : Bool) (w : World) (h : laws_fSameMap.f a0_0 a0_1 a1_0 a1_1 = some r) :
    Calls Try.prog 37 #[.agg #[.string a0_0, .string a0_1], .agg #[.string a1_0, .string a1_1]] w fun e w' => e = .returned (.bool r) ∧ Below w.heap.size w w' := by
  have hu25 := Try.underlying25
  have HB := Aside0.mk (Below.refl w.heap.size w)
  have H : ((impl_AreSamePairs.f a0_0 a0_1 a1_0 a1_1).bind fun bt183 => (if bt183.2 = true then (some bt183.1) else (some false))) = some r := h
  clear h
  replace H := Option.bind_eq_some_iff.mp H
  obtain ⟨⟨t183, t184⟩, A30, H⟩ := H
  (try dsimp only at H)
  have A3 := Aside0.mk A30
  clear A30
  by_cases c4 : t184 = true
  · subst c4
    rw [if_pos rfl] at H
    obtain rfl := Option.some.inj H
    go_enter Try.func37, Try.ntmps37
    go_wp2_with (first | ((with_reducible refine gate_dst (N := 2) rfl ?_); refine box_event ?hg (N := 2) ?hd (cs := #[.string a0_0, .string a0_1]) (t := 25) ?hr ?_; (case hd => rfl); (case hg => rfl); (case hr => exact lr); intro gb181 hg w5 hbox hb; have n0_ := Aside0.mk (below_step (lB HB.out) hb); have n1_ := Aside0.mk (hbox); have n2_ := gw hg (lB HB.out); have n3_ := gw hg (lB HB.out); clear HB; have HB := n0_; have BK181 := n1_; have GW181 := n2_; have GE181 := n3_; clear n0_ n1_ n2_ n3_; clear hb hbox hg) | ((with_reducible refine gate_dst (N := 3) rfl ?_); refine box_event ?hg (N := 3) ?hd (cs := #[.string a1_0, .string a1_1]) (t := 25) ?hr ?_; (case hd => rfl); (case hg => rfl); (case hr => exact lr); intro gb182 hg w6 hbox hb; have n0_ := Aside0.mk (blk_below (lb BK181.out) hb); have n1_ := Aside0.mk (below_step (lB HB.out) hb); have n2_ := Aside0.mk (hbox); have n3_ := gw hg (lB HB.out); have n4_ := gw hg (lB HB.out); have n5_ := na hg (lb BK181.out); have n6_ := nz hg (lb BK181.out); clear BK181 HB; have BK181 := n0_; have HB := n1_; have BK182 := n2_; have GW182 := n3_; have GE182 := n4_; have NB181_182 := n5_; have NB182_181 := n6_; clear n0_ n1_ n2_ n3_ n4_ n5_ n6_; clear hb hbox hg; have hnb7 := NB181_182.out; have hnc7 := NB182_181.out; have hcz8_0 : w6.cell? ⟨gb181, 0, none⟩ = some (.string a0_0) := (blk_cell BK181.out 0).trans rfl; have hcz8_1 : w6.cell? ⟨gb181, 1, none⟩ = some (.string a0_1) := (blk_cell BK181.out 1).trans rfl; have hfz8_0 := blk_frozen BK181.out 0; have hfz8_1 := blk_frozen BK181.out 1; have hcz9_0 : w6.cell? ⟨gb182, 0, none⟩ = some (.string a1_0) := (blk_cell BK182.out 0).trans rfl; have hcz9_1 : w6.cell? ⟨gb182, 1, none⟩ = some (.string a1_1) := (blk_cell BK182.out 1).trans rfl; have hfz9_0 := blk_frozen BK182.out 0; have hfz9_1 := blk_frozen BK182.out 1) | ((with_reducible refine gate_callee (f := 103) rfl ?_); refine goesL_ (some 10) rfl rfl Try.func103 (by kernel_rfl) rfl #[.agg #[.string a0_0, .string a0_1], .agg #[.string a1_0, .string a1_1]] rfl lm ?_; (with_reducible refine (impl_AreSamePairs.calls a0_0 a0_1 a1_0 a1_1 t183 true _ A3.out).mono ?_); rintro e w10 ⟨rfl, hb⟩; refine ⟨_, rfl, ?_⟩; have n0_ := Aside0.mk (blk_below (lb BK181.out) hb); have n1_ := Aside0.mk (blk_below (lb BK182.out) hb); have n2_ := Aside0.mk (below_step (lB HB.out) hb); clear BK181 BK182 HB; have BK181 := n0_; have BK182 := n1_; have HB := n2_; clear n0_ n1_ n2_; (try clear hb); (try clear hb2); (try clear hk); (try clear hi)))
    go_ret
    exact ⟨lx, by exact lB HB.out⟩
  replace c4 := Bool.eq_false_iff.mpr c4
  subst c4
  rw [if_neg (show ¬ (false = true) by decide)] at H
  obtain rfl := Option.some.inj H
  go_enter Try.func37, Try.ntmps37
  go_wp2_with (first | ((with_reducible refine gate_dst (N := 2) rfl ?_); refine box_event ?hg (N := 2) ?hd (cs := #[.string a0_0, .string a0_1]) (t := 25) ?hr ?_; (case hd => rfl); (case hg => rfl); (case hr => exact lr); intro gb181 hg w11 hbox hb; have n0_ := Aside0.mk (below_step (lB HB.out) hb); have n1_ := Aside0.mk (hbox); have n2_ := gw hg (lB HB.out); have n3_ := gw hg (lB HB.out); clear HB; have HB := n0_; have BK181 := n1_; have GW181 := n2_; have GE181 := n3_; clear n0_ n1_ n2_ n3_; clear hb hbox hg) | ((with_reducible refine gate_dst (N := 3) rfl ?_); refine box_event ?hg (N := 3) ?hd (cs := #[.string a1_0, .string a1_1]) (t := 25) ?hr ?_; (case hd => rfl); (case hg => rfl); (case hr => exact lr); intro gb182 hg w12 hbox hb; have n0_ := Aside0.mk (blk_below (lb BK181.out) hb); have n1_ := Aside0.mk (below_step (lB HB.out) hb); have n2_ := Aside0.mk (hbox); have n3_ := gw hg (lB HB.out); have n4_ := gw hg (lB HB.out); have n5_ := na hg (lb BK181.out); have n6_ := nz hg (lb BK181.out); clear BK181 HB; have BK181 := n0_; have HB := n1_; have BK182 := n2_; have GW182 := n3_; have GE182 := n4_; have NB181_182 := n5_; have NB182_181 := n6_; clear n0_ n1_ n2_ n3_ n4_ n5_ n6_; clear hb hbox hg; have hnb13 := NB181_182.out; have hnc13 := NB182_181.out; have hcz14_0 : w12.cell? ⟨gb181, 0, none⟩ = some (.string a0_0) := (blk_cell BK181.out 0).trans rfl; have hcz14_1 : w12.cell? ⟨gb181, 1, none⟩ = some (.string a0_1) := (blk_cell BK181.out 1).trans rfl; have hfz14_0 := blk_frozen BK181.out 0; have hfz14_1 := blk_frozen BK181.out 1; have hcz15_0 : w12.cell? ⟨gb182, 0, none⟩ = some (.string a1_0) := (blk_cell BK182.out 0).trans rfl; have hcz15_1 : w12.cell? ⟨gb182, 1, none⟩ = some (.string a1_1) := (blk_cell BK182.out 1).trans rfl; have hfz15_0 := blk_frozen BK182.out 0; have hfz15_1 := blk_frozen BK182.out 1) | ((with_reducible refine gate_callee (f := 103) rfl ?_); refine goesL_ (some 10) rfl rfl Try.func103 (by kernel_rfl) rfl #[.agg #[.string a0_0, .string a0_1], .agg #[.string a1_0, .string a1_1]] rfl lm ?_; (with_reducible refine (impl_AreSamePairs.calls a0_0 a0_1 a1_0 a1_1 t183 false _ A3.out).mono ?_); rintro e w16 ⟨rfl, hb⟩; refine ⟨_, rfl, ?_⟩; have n0_ := Aside0.mk (blk_below (lb BK181.out) hb); have n1_ := Aside0.mk (blk_below (lb BK182.out) hb); have n2_ := Aside0.mk (below_step (lB HB.out) hb); clear BK181 BK182 HB; have BK181 := n0_; have BK182 := n1_; have HB := n2_; clear n0_ n1_ n2_; (try clear hb); (try clear hb2); (try clear hk); (try clear hi)))
  go_ret
  exact ⟨lx, by exact lB HB.out⟩
def spec_DrawRotationDistance.f (k : Nat) (l0 : List Int) : Option (ByteArray × ByteArray) := (spec_l1Cur_one.f l0 0 0 10).bind fun bt186 => (if bt186.1 = true then ((spec_l1Cur_twoTrees.f k l0 bt186.2.1 bt186.2.2 6).bind fun bt189 => (some (bt189.1, bt189.2.1))) else ((spec_l1Cur_twoTrees.f k l0 bt186.2.1 bt186.2.2 4).bind fun bt193 => (some (bt193.1, bt193.2.1))))
theorem spec_DrawRotationDistance.mono : ∀ a0 k, LeO (spec_DrawRotationDistance.f k a0) (spec_DrawRotationDistance.f (k + 1) a0) := by
  intro a0 k
  unfold spec_DrawRotationDistance.f
  repeat' first
      | (with_reducible exact spec_l1Cur_twoTrees.mono _ _ _ _ _)
      | (with_reducible exact LeO.refl _)
      | (with_reducible exact LeO.none _)
      | (with_reducible refine LeO.ite ?_ ?_)
      | (with_reducible refine LeO.bind ?_ (fun _ => ?_))
      | exact spec_l1Cur_twoTrees.mono _ _ _ _ _
      | exact LeO.none _
      | refine LeO.ite ?_ ?_
      | refine LeO.bind ?_ (fun _ => ?_)
set_option maxHeartbeats 8000000 in
set_option maxRecDepth 100000 in
theorem spec_DrawRotationDistance.calls (k : Nat) (A0 : Option Addr) (c0 : Nat) (l0 : List Int) (r1 : ByteArray) (r2 : ByteArray) (w : World) (hr0 : Kd.C (Kd.int .u8) w A0 l0.length l0) (hc0 : l0.length ≤ c0) (h : spec_DrawRotationDistance.f k l0 = some (r1, r2)) :
    Calls Try.prog 38 #[.slice A0 l0.length c0] w fun e w' => e = .returned (.tuple #[.string r1, .string r2]) ∧ Below w.heap.size w w' := by
  have hu78 := Try.underlying78
  have HR0 := Aside0.mk hr0
  have HC0 := Aside0.mk hc0
  clear hr0 hc0
  have HB := Aside0.mk (Below.refl w.heap.size w)
  have H : ((spec_l1Cur_one.f l0 0 0 10).bind fun bt186 => (if bt186.1 = true then ((spec_l1Cur_twoTrees.f k l0 bt186.2.1 bt186.2.2 6).bind fun bt189 => (some (bt189.1, bt189.2.1))) else ((spec_l1Cur_twoTrees.f k l0 bt186.2.1 bt186.2.2 4).bind fun bt193 => (some (bt193.1, bt193.2.1))))) = some (r1, r2) := h
  clear h
  replace H := Option.bind_eq_some_iff.mp H
  obtain ⟨⟨t186, t187, t188⟩, A20, H⟩ := H
  replace H : (if t186 = true then ((spec_l1Cur_twoTrees.f k l0 t187 t188 6).bind fun bt189 => (some (bt189.1, bt189.2.1))) else ((spec_l1Cur_twoTrees.f k l0 t187 t188 4).bind fun bt193 => (some (bt193.1, bt193.2.1)))) = some (r1, r2) := H
  have A2 := Aside0.mk A20
  clear A20
  by_cases c3 : t186 = true
  · subst c3
    rw [if_pos rfl] at H
    replace H := Option.bind_eq_some_iff.mp H
    obtain ⟨⟨t189, t190, t191, t192⟩, A40, H⟩ := H
    replace H : (some (t189, t190)) = some (r1, r2) := H
    have A4 := Aside0.mk A40
    clear A40
    simp only [Option.some.injEq, Prod.mk.injEq] at H
    obtain ⟨rfl, rfl⟩ := H
    go_enter Try.func38, Try.ntmps38
    go_wp2_with (first | ((with_reducible refine gate_dst (N := 7) rfl ?_); refine box_event ?hg (N := 7) ?hd (cs := #[.slice A0 l0.length c0, .int .i64 0, .int .u64 0]) (t := 78) ?hr ?_; (case hd => rfl); (case hg => rfl); (case hr => exact lr); intro gb185 hg w5 hbox hb; have n0_ := Aside0.mk (below_step (lB HB.out) hb); have n1_ := gw hg (lB HB.out); have n2_ := gw hg (lB HB.out); have n3_ := Aside0.mk ((show IsS78 w w5 gb185 l0 0 0 from ⟨_, _, hbox, (by rw [hg]; exact (below_size (lB HB.out)) : w.heap.size ≤ gb185), HR0.out⟩)); clear HB; have HB := n0_; have GW185 := n1_; have GE185 := n2_; have HI185 := n3_; clear n0_ n1_ n2_ n3_; clear hb hbox hg) | ((with_reducible refine gate_callee (f := 71) rfl ?_); refine goesL_ (some 9) rfl rfl Try.func71 (by kernel_rfl) rfl #[.pointer (some ⟨gb185, 0, none⟩), .int .i64 10] rfl lm ?_; (with_reducible refine (spec_l1Cur_one.calls gb185 l0 0 0 10 true t187 t188 w _ ?side1 ?side2 A2.out).mono ?_); (case side1 => exact lI78 HI185.out); (case side2 => exact lB HB.out); rintro e w6 ⟨rfl, hi, hb, hk⟩; refine ⟨_, rfl, ?_⟩; have n0_ := Aside0.mk (hb); have n1_ := Aside0.mk (hi); clear HB HI185; have HB := n0_; have HI185 := n1_; clear n0_ n1_; (try clear hb); (try clear hb2); (try clear hk); (try clear hi)) | ((with_reducible refine gate_callee (f := 95) rfl ?_); refine goesL_ (some 11) rfl rfl Try.func95 (by kernel_rfl) rfl #[.pointer (some ⟨gb185, 0, none⟩), .int .i64 6] rfl lm ?_; (with_reducible refine (spec_l1Cur_twoTrees.calls k gb185 l0 t187 t188 6 t189 t190 t191 t192 w _ ?side1 ?side2 A4.out).mono ?_); (case side1 => exact lI78 HI185.out); (case side2 => exact lB HB.out); rintro e w7 ⟨rfl, hi, hb, hk⟩; refine ⟨_, rfl, ?_⟩; have n0_ := Aside0.mk (hb); have n1_ := Aside0.mk (hi); clear HB HI185; have HB := n0_; have HI185 := n1_; clear n0_ n1_; (try clear hb); (try clear hb2); (try clear hk); (try clear hi)))
    go_ret2
    exact ⟨lx, by exact lB HB.out⟩
  replace c3 := Bool.eq_false_iff.mpr c3
  subst c3
  rw [if_neg (show ¬ (false = true) by decide)] at H
  replace H := Option.bind_eq_some_iff.mp H
  obtain ⟨⟨t193, t194, t195, t196⟩, A80, H⟩ := H
  replace H : (some (t193, t194)) = some (r1, r2) := H
  have A8 := Aside0.mk A80
  clear A80
  simp only [Option.some.injEq, Prod.mk.injEq] at H
  obtain ⟨rfl, rfl⟩ := H
  go_enter Try.func38, Try.ntmps38
  go_wp2_with (first | ((with_reducible refine gate_dst (N := 7) rfl ?_); refine box_event ?hg (N := 7) ?hd (cs := #[.slice A0 l0.length c0, .int .i64 0, .int .u64 0]) (t := 78) ?hr ?_; (case hd => rfl); (case hg => rfl); (case hr => exact lr); intro gb185 hg w9 hbox hb; have n0_ := Aside0.mk (below_step (lB HB.out) hb); have n1_ := gw hg (lB HB.out); have n2_ := gw hg (lB HB.out); have n3_ := Aside0.mk ((show IsS78 w w9 gb185 l0 0 0 from ⟨_, _, hbox, (by rw [hg]; exact (below_size (lB HB.out)) : w.heap.size ≤ gb185), HR0.out⟩)); clear HB; have HB := n0_; have GW185 := n1_; have GE185 := n2_; have HI185 := n3_; clear n0_ n1_ n2_ n3_; clear hb hbox hg) | ((with_reducible refine gate_callee (f := 71) rfl ?_); refine goesL_ (some 9) rfl rfl Try.func71 (by kernel_rfl) rfl #[.pointer (some ⟨gb185, 0, none⟩), .int .i64 10] rfl lm ?_; (with_reducible refine (spec_l1Cur_one.calls gb185 l0 0 0 10 false t187 t188 w _ ?side1 ?side2 A2.out).mono ?_); (case side1 => exact lI78 HI185.out); (case side2 => exact lB HB.out); rintro e w10 ⟨rfl, hi, hb, hk⟩; refine ⟨_, rfl, ?_⟩; have n0_ := Aside0.mk (hb); have n1_ := Aside0.mk (hi); clear HB HI185; have HB := n0_; have HI185 := n1_; clear n0_ n1_; (try clear hb); (try clear hb2); (try clear hk); (try clear hi)) | ((with_reducible refine gate_callee (f := 95) rfl ?_); refine goesL_ (some 15) rfl rfl Try.func95 (by kernel_rfl) rfl #[.pointer (some ⟨gb185, 0, none⟩), .int .i64 4] rfl lm ?_; (with_reducible refine (spec_l1Cur_twoTrees.calls k gb185 l0 t187 t188 4 t193 t194 t195 t196 w _ ?side1 ?side2 A8.out).mono ?_); (case side1 => exact lI78 HI185.out); (case side2 => exact lB HB.out); rintro e w11 ⟨rfl, hi, hb, hk⟩; refine ⟨_, rfl, ?_⟩; have n0_ := Aside0.mk (hb); have n1_ := Aside0.mk (hi); clear HB HI185; have HB := n0_; have HI185 := n1_; clear n0_ n1_; (try clear hb); (try clear hb2); (try clear hk); (try clear hi)))
  go_ret2
  exact ⟨lx, by exact lB HB.out⟩
end Go.Proofs.Ytijnadjgmmednaa.PA
namespace Go.Proofs.Ytijnadjgmmednaa.PA
open Go.RowKit Go.Proofs.YtijnadjgmmednaaW.PrintWords
def Oct (l : List Int) : Prop := ∀ x ∈ l, 0 ≤ x ∧ x ≤ 255
def Lf (m : Nat) (a : Int) : Prop := 0 ≤ a ∧ a + m ≤ 4611686018427387904
theorem Lf.less {m n : Nat} {a : Int} (h : Lf m a) (hn : n ≤ m) : Lf n a := by unfold Lf at *; omega
theorem w64 {x : Int} (h : -9223372036854775808 ≤ x ∧ x ≤ 9223372036854775807) : wrap64 x = x := by unfold wrap64; omega
theorem rd_oct {l : List Int} (hl : Oct l) (i : Int) (h0 : 0 ≤ i) (h1 : i < l.length) : 0 ≤ rd l i ∧ rd l i ≤ 255 := by
  unfold rd
  rw [List.getD_eq_getElem?_getD, List.getElem?_eq_getElem (by omega)]
  exact hl _ (List.getElem_mem _)
theorem u64_range (n : Int) : 0 ≤ IntKind.u64.wrap n ∧ IntKind.u64.wrap n < 18446744073709551616 := by
  simp [IntKind.wrap, IntKind.bits, IntKind.signed]; omega
theorem u64_in (n : Int) (h0 : 0 ≤ n) (h1 : n < 2 ^ 64) : IntKind.u64.wrap n = n := by
  simp [IntKind.wrap, IntKind.bits, IntKind.signed]; omega
theorem byte_of (n : Int) : 0 ≤ wrap64 (Go.bits .and .u64 (IntKind.u64.wrap n / 1099511627776) 255) ∧ wrap64 (Go.bits .and .u64 (IntKind.u64.wrap n / 1099511627776) 255) ≤ 255 := by
  obtain ⟨h0, h1⟩ := u64_range n
  generalize IntKind.u64.wrap n = x at *
  have h2 : 0 ≤ x / 1099511627776 := by omega
  have h3 : x / 1099511627776 < 2 ^ 64 := by omega
  have := bits_mask .u64 64 (by decide) u64_in 8 (by decide) (x / 1099511627776) h2 h3
  rw [show ((2 : Int) ^ 8 - 1) = 255 from rfl] at this
  rw [this, w64 (by omega)]
  omega
theorem next_tot {l : List Int} (hl : Oct l) {m : Nat} {a s : Int} (h : Lf (m + 1) a) : ∃ r s', spec_l1Cur_next.f l a s = some (r, a + 1, s') ∧ 0 ≤ r ∧ r ≤ 255 := by
  unfold Lf at h
  have hw : wrap64 (a + 1) = a + 1 := w64 (by omega)
  unfold spec_l1Cur_next.f
  by_cases h1 : a < (l.length : Int)
  · obtain ⟨b0, b1⟩ := rd_oct hl a h.1 h1
    rw [if_pos h1, if_pos h.1, hw]
    by_cases h2 : a + 1 ≤ (l.length : Int)
    · rw [if_pos h2, w64 (x := rd l a) (by omega)]
      exact ⟨_, _, rfl, b0, b1⟩
    · rw [if_neg h2]
      exact ⟨_, _, rfl, (byte_of _).1, (byte_of _).2⟩
  · rw [if_neg h1, hw]
    by_cases h2 : a + 1 ≤ (l.length : Int)
    · rw [if_pos h2]
      try simp only [Option.bind_some]
      exact ⟨_, _, rfl, by omega, by omega⟩
    · rw [if_neg h2]
      exact ⟨_, _, rfl, (byte_of _).1, (byte_of _).2⟩
theorem pick_tot {l : List Int} (hl : Oct l) {m : Nat} {a s : Int} (n : Int) (hn : n ≤ 1000000000) (h : Lf (m + 2) a) : ∃ r a' s', spec_l1Cur_pick.f l a s n = some (r, a', s') ∧ 0 ≤ r ∧ (1 ≤ n → r < n) ∧ Lf m a' := by
  unfold spec_l1Cur_pick.f
  by_cases h1 : n ≤ 1
  · rw [if_pos h1]
    exact ⟨0, a, s, rfl, by omega, fun _ => by omega, h.less (by omega)⟩
  · obtain ⟨r, s', e, r0, r1⟩ := next_tot hl (m := m + 1) (a := a) (s := s) h
    rw [if_neg h1, e]
    simp only [Option.bind_some]
    have h' : Lf (m + 1) (a + 1) := by unfold Lf at *; omega
    by_cases h2 : n > 200
    · obtain ⟨r2, s2, e2, r20, r21⟩ := next_tot hl (m := m) (s := s') h'
      rw [if_pos h2, e2]
      simp only [Option.bind_some]
      rw [if_neg (by omega), w64 (x := r * 256) (by omega), w64 (by omega)]
      have hm : Int.tmod (r * 256 + r2) n = (r * 256 + r2) % n := Int.tmod_eq_emod_of_nonneg (by omega)
      rw [hm]
      exact ⟨_, _, _, rfl, Int.emod_nonneg _ (by omega), fun _ => Int.emod_lt_of_pos _ (by omega), by unfold Lf at *; omega⟩
    · rw [if_neg h2, if_neg (by omega)]
      have hm : Int.tmod r n = r % n := Int.tmod_eq_emod_of_nonneg (by omega)
      rw [hm]
      exact ⟨_, _, _, rfl, Int.emod_nonneg _ (by omega), fun _ => Int.emod_lt_of_pos _ (by omega), by unfold Lf at *; omega⟩
theorem tx_size (T : N.Tr) : (N.tx T).size = 3 * T.carets + 1 := T.txt_length
end Go.Proofs.Ytijnadjgmmednaa.PA
