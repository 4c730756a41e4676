import Derived.Test.YtdcipaaclpedhaaGreatXr26
import Derived.Test.YtdcipaaclpedhaaGreatXr27
/- A part of the proof: lemmas that later parts use. -/
set_option linter.unusedVariables false
set_option linter.unusedSimpArgs false
namespace Go.Proofs.YtdcipaaclpedhaaGreat.PA
open Go.RowKit Go.Proofs.YtdcipaaclpedhaaGreatW.PrintWords Go.Proofs.YtdcipaaclpedhaaGreatW.PrintLast Go.Proofs.YtdcipaaclpedhaaGreatW.PrintMore
attribute [local go_sem] max2_int min2_int max_two min_two max_three min_three max_four min_four
def spec_l1Cur_sureTree.l0 : Nat → Int → ByteArray → Int → List Int → Int → Int → Option (ByteArray × Int × Int)
  | 0, _, _, _, _, _, _ => none
  | k + 1, x1, x5, x6, x1000, x1001, x1002 => if x6 < x1 then ((spec_l1Cur_pick.f x1000 x1001 x1002 (wrap64 (x6 + 1))).bind fun bt112 => ((spec_trGraft.f x5 bt112.1 (⟨#[40, 46, 46, 41]⟩ : ByteArray)).bind fun t115 => (spec_l1Cur_sureTree.l0 k x1 t115 (wrap64 (x6 + 1)) x1000 bt112.2.1 bt112.2.2))) else (some (x5, x1001, x1002))
def spec_l1Cur_sureTree.f (k : Nat) (s0_0 : List Int) (s0_1 : Int) (s0_2 : Int) (a1 : Int) : Option (ByteArray × Int × Int) := spec_l1Cur_sureTree.l0 k a1 (⟨#[46]⟩ : ByteArray) 0 s0_0 s0_1 s0_2
theorem spec_l1Cur_sureTree.mono_l : ∀ k, (∀ y0 y1 y2 y3 y4 y5, LeO (spec_l1Cur_sureTree.l0 k y0 y1 y2 y3 y4 y5) (spec_l1Cur_sureTree.l0 (k + 1) y0 y1 y2 y3 y4 y5))
  | 0 => fun _ _ _ _ _ _ r h => by simp [spec_l1Cur_sureTree.l0] at h
  | k + 1 => by
    have ih0 := spec_l1Cur_sureTree.mono_l k
    · intro y0 y1 y2 y3 y4 y5
      unfold spec_l1Cur_sureTree.l0
      repeat' first
      | (with_reducible exact ih0 _ _ _ _ _ _)
      | (with_reducible exact LeO.refl _)
      | (with_reducible exact LeO.none _)
      | (with_reducible refine LeO.ite ?_ ?_)
      | (with_reducible refine LeO.bind ?_ (fun _ => ?_))
      | exact ih0 _ _ _ _ _ _
      | exact LeO.none _
      | refine LeO.ite ?_ ?_
      | refine LeO.bind ?_ (fun _ => ?_)
theorem spec_l1Cur_sureTree.mono : ∀ a0 a1 a2 a3 k, LeO (spec_l1Cur_sureTree.f k a0 a1 a2 a3) (spec_l1Cur_sureTree.f (k + 1) a0 a1 a2 a3) := by
  intro a0 a1 a2 a3 k
  have ih0 := spec_l1Cur_sureTree.mono_l k
  unfold spec_l1Cur_sureTree.f
  repeat' first
      | (with_reducible exact ih0 _ _ _ _ _ _)
      | (with_reducible exact LeO.refl _)
      | (with_reducible exact LeO.none _)
      | (with_reducible refine LeO.ite ?_ ?_)
      | (with_reducible refine LeO.bind ?_ (fun _ => ?_))
      | exact ih0 _ _ _ _ _ _
      | exact LeO.none _
      | refine LeO.ite ?_ ?_
      | refine LeO.bind ?_ (fun _ => ?_)
set_option maxHeartbeats 8000000 in
set_option maxRecDepth 100000 in
theorem spec_l1Cur_sureTree.calls (k : Nat) (g : Nat) (s0_0 : List Int) (s0_1 : Int) (s0_2 : Int) (a1 : Int) (r1 : ByteArray) (r2 : Int) (r3 : Int) (w0 w : World) (hI : IsS47 w0 w g s0_0 s0_1 s0_2) (hB : Below w0.heap.size w0 w) (h : spec_l1Cur_sureTree.f k s0_0 s0_1 s0_2 a1 = some (r1, r2, r3)) :
    Calls Tryz.prog 48 #[.pointer (some ⟨g, 0, none⟩), .int .i64 a1] w fun e w' => e = .returned (.string r1) ∧ IsS47 w0 w' g s0_0 r2 r3 ∧ Below w0.heap.size w0 w' ∧ KeepBut w w' g none := by
  have HI0 := Aside0.mk hI
  have HK := Aside0.mk (KeepBut.refl w g none)
  have HL := Aside0.mk hB.size
  clear hI
  have HW0 := Aside0.mk hB.size
  have HB := Aside0.mk hB
  clear hB
  have H : (spec_l1Cur_sureTree.l0 k a1 (⟨#[46]⟩ : ByteArray) 0 s0_0 s0_1 s0_2) = some (r1, r2, r3) := h
  clear h
  have H' := Aside0.mk H
  clear H
  go_enter Tryz.func48, Tryz.ntmps48
  go_wp2
  go_loopg [5, 6] k (fun kq v5 v6 w' => ∃ (x5_1 : ByteArray) (x6_1 : Int) (x1001_1 : Int) (x1002_1 : Int), v5 = .string x5_1 ∧ v6 = .int .i64 x6_1 ∧ Aside0 (spec_l1Cur_sureTree.l0 kq a1 x5_1 x6_1 s0_0 x1001_1 x1002_1 = some (r1, r2, r3)) ∧ Aside0 (kq ≤ k) ∧ Aside0 (IsS47 w0 w' g s0_0 x1001_1 x1002_1) ∧ Aside0 (KeepBut w w' g none) ∧ Aside0 (Below w0.heap.size w0 w'))
  case atStart => exact ⟨((⟨#[46]⟩ : ByteArray)), (0), (s0_1), (s0_2), (by first | rfl | (simp; done) | (simp [*]; done)), (by first | rfl | (simp; done) | (simp [*]; done)), H', ⟨Nat.le_refl _⟩, ⟨by exact lI47 HI0.out⟩, ⟨by exact lK HK.out⟩, ⟨by exact lB HB.out⟩⟩
  case round =>
   clear H'
   obtain ⟨x5_1, x6_1, x1001_1, x1002_1, rfl, rfl, HA, HK1, HI0, HK, HB⟩ := hrel
   cases gk with
   | zero => exact absurd HA.out (by simp [spec_l1Cur_sureTree.l0])
   | succ k1 =>
     have H := HA.out
     clear HA
     simp only [spec_l1Cur_sureTree.l0] at H
     by_cases c3 : x6_1 < a1
     · rw [if_pos c3] at H
       have c3b0 : decide (x6_1 < a1) = true := decide_eq_true c3
       clear c3
       replace H := Option.bind_eq_some_iff.mp H
       obtain ⟨⟨t112, t113, t114⟩, A40, H⟩ := H
       replace H : ((spec_trGraft.f x5_1 t112 (⟨#[40, 46, 46, 41]⟩ : ByteArray)).bind fun t115 => (spec_l1Cur_sureTree.l0 k1 a1 t115 (wrap64 (x6_1 + 1)) s0_0 t113 t114)) = some (r1, r2, r3) := H
       have A4 := Aside0.mk A40
       clear A40
       replace H := Option.bind_eq_some_iff.mp H
       obtain ⟨t115, A50, H⟩ := H
       replace H : (spec_l1Cur_sureTree.l0 k1 a1 t115 (wrap64 (x6_1 + 1)) s0_0 t113 t114) = some (r1, r2, r3) := H
       have A5 := Aside0.mk A50
       clear A50
       have H' := Aside0.mk H
       clear H
       go_wp2_with (first | ((with_reducible refine gate_callee (f := 24) rfl ?_); refine goesL_ (some 16) rfl rfl Tryz.func24 (by kernel_rfl) rfl #[.pointer (some ⟨g, 0, none⟩), .int .i64 (wrap64 (x6_1 + 1))] rfl lm ?_; (with_reducible refine (spec_l1Cur_pick.calls g s0_0 x1001_1 x1002_1 (wrap64 (x6_1 + 1)) t112 t113 t114 w0 _ ?side1 ?side2 A4.out).mono ?_); (case side1 => exact lI47 HI0.out); (case side2 => exact lB HB.out); rintro e w6 ⟨rfl, hi, hb, hk⟩; refine ⟨_, rfl, ?_⟩; have n0_ := Aside0.mk (KeepBut.trans (lK HK.out) hk (.inl rfl)); have n1_ := Aside0.mk (hb); have n2_ := Aside0.mk (hi); clear HK HB HI0; have HK := n0_; have HB := n1_; have HI0 := n2_; clear n0_ n1_ n2_; (try clear hb); (try clear hb2); (try clear hk); (try clear hi)) | ((with_reducible refine gate_callee (f := 74) rfl ?_); refine goesL_ (some 17) rfl rfl Tryz.func74 (by kernel_rfl) rfl #[.string x5_1, .int .i64 t112, .string (⟨#[40, 46, 46, 41]⟩ : ByteArray)] rfl lm ?_; (with_reducible refine (spec_trGraft.calls x5_1 t112 (⟨#[40, 46, 46, 41]⟩ : ByteArray) t115 _ A5.out).mono ?_); rintro e w' ⟨rfl, ⟨nd, rfl⟩⟩; refine ⟨_, rfl, ?_⟩))
       go_roundg k1
       case measure => have := HK1.out; omega
       case rel => exact ⟨(t115), (wrap64 (x6_1 + 1)), (t113), (t114), (by first | rfl | (simp; done) | (simp [*]; done)), (by first | rfl | (simp; done) | (simp [*]; done)), H', ⟨by have := HK1.out; omega⟩, ⟨by exact lI47 HI0.out⟩, ⟨by exact lK HK.out⟩, ⟨by exact lB HB.out⟩⟩
     · rw [if_neg c3] at H
       have c3b0 : decide (x6_1 < a1) = false := decide_eq_false c3
       clear c3
       simp only [Option.some.injEq, Prod.mk.injEq] at H
       obtain ⟨rfl, rfl, rfl⟩ := H
       go_wp2
       go_ret
       exact ⟨lx, by exact lI47 HI0.out, by exact lB HB.out, by exact lK HK.out⟩
def spec_l1Cur_surePair.f (k : Nat) (s0_0 : List Int) (s0_1 : Int) (s0_2 : Int) (a1 : Int) : Option (ByteArray × ByteArray × Int × Int) := (spec_l1Cur_sureTree.f k s0_0 s0_1 s0_2 a1).bind fun bt117 => ((spec_l1Cur_sureTree.f k s0_0 bt117.2.1 bt117.2.2 a1).bind fun bt120 => (some (bt117.1, bt120.1, bt120.2.1, bt120.2.2)))
theorem spec_l1Cur_surePair.mono : ∀ a0 a1 a2 a3 k, LeO (spec_l1Cur_surePair.f k a0 a1 a2 a3) (spec_l1Cur_surePair.f (k + 1) a0 a1 a2 a3) := by
  intro a0 a1 a2 a3 k
  unfold spec_l1Cur_surePair.f
  repeat' first
      | (with_reducible exact spec_l1Cur_sureTree.mono _ _ _ _ _)
      | (with_reducible exact LeO.refl _)
      | (with_reducible exact LeO.none _)
      | (with_reducible refine LeO.ite ?_ ?_)
      | (with_reducible refine LeO.bind ?_ (fun _ => ?_))
      | exact spec_l1Cur_sureTree.mono _ _ _ _ _
      | exact LeO.none _
      | refine LeO.ite ?_ ?_
      | refine LeO.bind ?_ (fun _ => ?_)
set_option maxHeartbeats 8000000 in
set_option maxRecDepth 100000 in
theorem spec_l1Cur_surePair.calls (k : Nat) (g : Nat) (s0_0 : List Int) (s0_1 : Int) (s0_2 : Int) (a1 : Int) (r1 : ByteArray) (r2 : ByteArray) (r3 : Int) (r4 : Int) (w0 w : World) (hI : IsS47 w0 w g s0_0 s0_1 s0_2) (hB : Below w0.heap.size w0 w) (h : spec_l1Cur_surePair.f k s0_0 s0_1 s0_2 a1 = some (r1, r2, r3, r4)) :
    Calls Tryz.prog 23 #[.pointer (some ⟨g, 0, none⟩), .int .i64 a1] w fun e w' => e = .returned (.agg #[.string r1, .string r2]) ∧ IsS47 w0 w' g s0_0 r3 r4 ∧ Below w0.heap.size w0 w' ∧ KeepBut w w' g none := by
  have hu25 := Tryz.underlying25
  have HI0 := Aside0.mk hI
  have HK := Aside0.mk (KeepBut.refl w g none)
  have HL := Aside0.mk hB.size
  clear hI
  have HW0 := Aside0.mk hB.size
  have HB := Aside0.mk hB
  clear hB
  have H : ((spec_l1Cur_sureTree.f k s0_0 s0_1 s0_2 a1).bind fun bt117 => ((spec_l1Cur_sureTree.f k s0_0 bt117.2.1 bt117.2.2 a1).bind fun bt120 => (some (bt117.1, bt120.1, bt120.2.1, bt120.2.2)))) = some (r1, r2, r3, r4) := h
  clear h
  replace H := Option.bind_eq_some_iff.mp H
  obtain ⟨⟨t117, t118, t119⟩, A30, H⟩ := H
  replace H : ((spec_l1Cur_sureTree.f k s0_0 t118 t119 a1).bind fun bt120 => (some (t117, bt120.1, bt120.2.1, bt120.2.2))) = some (r1, r2, r3, r4) := H
  have A3 := Aside0.mk A30
  clear A30
  replace H := Option.bind_eq_some_iff.mp H
  obtain ⟨⟨t120, t121, t122⟩, A40, H⟩ := H
  replace H : (some (t117, t120, t121, t122)) = some (r1, r2, r3, r4) := H
  have A4 := Aside0.mk A40
  clear A40
  simp only [Option.some.injEq, Prod.mk.injEq] at H
  obtain ⟨rfl, rfl, rfl, rfl⟩ := H
  go_enter Tryz.func23, Tryz.ntmps23
  go_wp2_with (first | ((with_reducible refine gate_dst (N := 4) rfl ?_); refine box_event ?hg (N := 4) ?hd (cs := #[.string (⟨#[]⟩ : ByteArray), .string (⟨#[]⟩ : ByteArray)]) (t := 25) ?hr ?_; (case hd => rfl); (case hg => rfl); (case hr => exact lr); intro gb116 hg w5 hbox hb; have n0_ := Aside0.mk (IsS47.below (lI47 HI0.out) hb); have n1_ := Aside0.mk (KeepBut.trans (lK HK.out) (KeepBut.of_below hb g none) (.inl rfl)); have n2_ := Aside0.mk (below_step (lB HB.out) hb); have n3_ := Aside0.mk (hbox); have n4_ := Aside0.mk ((by rw [hg]; exact (keep_size (w := w) (g := g) (row := none) (lK HK.out)) : w.heap.size ≤ gb116)); have n5_ := Aside0.mk ((Nat.le_trans HW0.out (by rw [hg]; exact (keep_size (w := w) (g := g) (row := none) (lK HK.out)) : w.heap.size ≤ gb116) : w0.heap.size ≤ gb116)); have n6_ := Aside0.mk ((by rw [hg]; exact Nat.ne_of_lt (IsS47.lt (show IsS47 w0 _ g s0_0 s0_1 s0_2 from by exact lI47 HI0.out)) : g ≠ gb116)); have n7_ := Aside0.mk ((by rw [hg]; exact Nat.ne_of_gt (IsS47.lt (show IsS47 w0 _ g s0_0 s0_1 s0_2 from by exact lI47 HI0.out)) : gb116 ≠ g)); clear HI0 HK HB; have HI0 := n0_; have HK := n1_; have HB := n2_; have BK116 := n3_; have GW116 := n4_; have GE116 := n5_; have NB0_116 := n6_; have NB116_0 := n7_; clear n0_ n1_ n2_ n3_ n4_ n5_ n6_ n7_; clear hb hbox hg) | ((with_reducible refine gate_callee (f := 48) rfl ?_); refine goesL_ (some 7) rfl rfl Tryz.func48 (by kernel_rfl) rfl #[.pointer (some ⟨g, 0, none⟩), .int .i64 a1] rfl lm ?_; (with_reducible refine (spec_l1Cur_sureTree.calls k g s0_0 s0_1 s0_2 a1 t117 t118 t119 w0 _ ?side1 ?side2 A3.out).mono ?_); (case side1 => exact lI47 HI0.out); (case side2 => exact lB HB.out); rintro e w6 ⟨rfl, hi, hb, hk⟩; refine ⟨_, rfl, ?_⟩; have n0_ := Aside0.mk (KeepBut.blk hk (g' := gb116) (o := .cells #[.string (⟨#[]⟩ : ByteArray), .string (⟨#[]⟩ : ByteArray)] 25 (0, 0)) (lb BK116.out) NB116_0.out (by simp)); have n1_ := Aside0.mk (KeepBut.trans (lK HK.out) hk (.inl rfl)); have n2_ := Aside0.mk (hb); have n3_ := Aside0.mk (hi); clear BK116 HK HB HI0; have BK116 := n0_; have HK := n1_; have HB := n2_; have HI0 := n3_; clear n0_ n1_ n2_ n3_; (try clear hb); (try clear hb2); (try clear hk); (try clear hi)) | ((with_reducible refine gate_callee (f := 48) rfl ?_); refine goesL_ (some 10) rfl rfl Tryz.func48 (by kernel_rfl) rfl #[.pointer (some ⟨g, 0, none⟩), .int .i64 a1] rfl lm ?_; (with_reducible refine (spec_l1Cur_sureTree.calls k g s0_0 t118 t119 a1 t120 t121 t122 w0 _ ?side1 ?side2 A4.out).mono ?_); (case side1 => exact lI47 HI0.out); (case side2 => exact lB HB.out); rintro e w7 ⟨rfl, hi, hb, hk⟩; refine ⟨_, rfl, ?_⟩; have n0_ := Aside0.mk (KeepBut.blk hk (g' := gb116) (o := .cells #[.string (⟨#[]⟩ : ByteArray), .string (⟨#[]⟩ : ByteArray)] 25 (0, 0)) (lb BK116.out) NB116_0.out (by simp)); have n1_ := Aside0.mk (KeepBut.trans (lK HK.out) hk (.inl rfl)); have n2_ := Aside0.mk (hb); have n3_ := Aside0.mk (hi); clear BK116 HK HB HI0; have BK116 := n0_; have HK := n1_; have HB := n2_; have HI0 := n3_; clear n0_ n1_ n2_ n3_; (try clear hb); (try clear hb2); (try clear hk); (try clear hi); have hnb8 := NB116_0.out; have hnc8 := NB0_116.out; have hcz9_0 : w7.cell? ⟨gb116, 0, none⟩ = some (.string (⟨#[]⟩ : ByteArray)) := (blk_cell BK116.out 0).trans rfl; have hcz9_1 : w7.cell? ⟨gb116, 1, none⟩ = some (.string (⟨#[]⟩ : ByteArray)) := (blk_cell BK116.out 1).trans rfl; have hfz9_0 := blk_frozen BK116.out 0; have hfz9_1 := blk_frozen BK116.out 1))
  refine bodyPost_ret (results_cell_row rfl _ _ gb116 25 #[.string t117, .string t120] (0, 0) _ rfl (by (with_reducible repeat (first | refine blk_drewN ?_ _ | refine blk_drew ?_ | refine blk_alloc ?_ _)); refine blk_put (cs := #[.string t117, .string (⟨#[]⟩ : ByteArray)]) ?_ 1 _ rfl; (with_reducible repeat (first | refine blk_drewN ?_ _ | refine blk_drew ?_ | refine blk_alloc ?_ _)); refine blk_put (cs := #[.string (⟨#[]⟩ : ByteArray), .string (⟨#[]⟩ : ByteArray)]) ?_ 0 _ rfl; exact lb BK116.out) Tryz.underlying25 rfl (by kernel_rfl)) rfl ?_
  exact ⟨lx, by exact lI47 HI0.out, by exact lB HB.out, by exact lK HK.out⟩
def spec_l1Cur_tree.f (k : Nat) (s0_0 : List Int) (s0_1 : Int) (s0_2 : Int) (a1 : Int) : Option (ByteArray × Int × Int) := (spec_l1Cur_pick.f s0_0 s0_1 s0_2 (wrap64 (a1 + 1))).bind fun bt141 => ((spec_l1Cur_sureTree.f k s0_0 bt141.2.1 bt141.2.2 bt141.1).bind fun bt144 => ((spec_l1Cur_pick.f s0_0 bt144.2.1 bt144.2.2 14).bind fun bt147 => (if bt147.1 = 0 then ((spec_l1Cur_spoilt.f k s0_0 bt147.2.1 bt147.2.2 bt144.1 (⟨#[40, 46, 41]⟩ : ByteArray)).bind fun bt150 => (some (bt150.1, bt150.2.1, bt150.2.2))) else (if bt147.1 = 1 then ((spec_l1Cur_pick.f s0_0 bt147.2.1 bt147.2.2 2).bind fun bt153 => ((spec_l1Cur_sureTree.f k s0_0 bt153.2.1 bt153.2.2 (wrap64 (8 + bt153.1))).bind fun bt156 => (some (bt156.1, bt156.2.1, bt156.2.2)))) else (some (bt144.1, bt147.2.1, bt147.2.2))))))
theorem spec_l1Cur_tree.mono : ∀ a0 a1 a2 a3 k, LeO (spec_l1Cur_tree.f k a0 a1 a2 a3) (spec_l1Cur_tree.f (k + 1) a0 a1 a2 a3) := by
  intro a0 a1 a2 a3 k
  unfold spec_l1Cur_tree.f
  repeat' first
      | (with_reducible exact spec_l1Cur_spoilt.mono _ _ _ _ _ _)
      | (with_reducible exact spec_l1Cur_sureTree.mono _ _ _ _ _)
      | (with_reducible exact LeO.refl _)
      | (with_reducible exact LeO.none _)
      | (with_reducible refine LeO.ite ?_ ?_)
      | (with_reducible refine LeO.bind ?_ (fun _ => ?_))
      | exact spec_l1Cur_spoilt.mono _ _ _ _ _ _
      | exact spec_l1Cur_sureTree.mono _ _ _ _ _
      | exact LeO.none _
      | refine LeO.ite ?_ ?_
      | refine LeO.bind ?_ (fun _ => ?_)
set_option maxHeartbeats 8000000 in
set_option maxRecDepth 100000 in
theorem spec_l1Cur_tree.calls (k : Nat) (g : Nat) (s0_0 : List Int) (s0_1 : Int) (s0_2 : Int) (a1 : Int) (r1 : ByteArray) (r2 : Int) (r3 : Int) (w0 w : World) (hI : IsS47 w0 w g s0_0 s0_1 s0_2) (hB : Below w0.heap.size w0 w) (h : spec_l1Cur_tree.f k s0_0 s0_1 s0_2 a1 = some (r1, r2, r3)) :
    Calls Tryz.prog 55 #[.pointer (some ⟨g, 0, none⟩), .int .i64 a1] w fun e w' => e = .returned (.string r1) ∧ IsS47 w0 w' g s0_0 r2 r3 ∧ Below w0.heap.size w0 w' ∧ KeepBut w w' g none := by
  have HI0 := Aside0.mk hI
  have HK := Aside0.mk (KeepBut.refl w g none)
  have HL := Aside0.mk hB.size
  clear hI
  have HW0 := Aside0.mk hB.size
  have HB := Aside0.mk hB
  clear hB
  have H : ((spec_l1Cur_pick.f s0_0 s0_1 s0_2 (wrap64 (a1 + 1))).bind fun bt141 => ((spec_l1Cur_sureTree.f k s0_0 bt141.2.1 bt141.2.2 bt141.1).bind fun bt144 => ((spec_l1Cur_pick.f s0_0 bt144.2.1 bt144.2.2 14).bind fun bt147 => (if bt147.1 = 0 then ((spec_l1Cur_spoilt.f k s0_0 bt147.2.1 bt147.2.2 bt144.1 (⟨#[40, 46, 41]⟩ : ByteArray)).bind fun bt150 => (some (bt150.1, bt150.2.1, bt150.2.2))) else (if bt147.1 = 1 then ((spec_l1Cur_pick.f s0_0 bt147.2.1 bt147.2.2 2).bind fun bt153 => ((spec_l1Cur_sureTree.f k s0_0 bt153.2.1 bt153.2.2 (wrap64 (8 + bt153.1))).bind fun bt156 => (some (bt156.1, bt156.2.1, bt156.2.2)))) else (some (bt144.1, bt147.2.1, bt147.2.2))))))) = some (r1, r2, r3) := h
  clear h
  replace H := Option.bind_eq_some_iff.mp H
  obtain ⟨⟨t141, t142, t143⟩, A30, H⟩ := H
  replace H : ((spec_l1Cur_sureTree.f k s0_0 t142 t143 t141).bind fun bt144 => ((spec_l1Cur_pick.f s0_0 bt144.2.1 bt144.2.2 14).bind fun bt147 => (if bt147.1 = 0 then ((spec_l1Cur_spoilt.f k s0_0 bt147.2.1 bt147.2.2 bt144.1 (⟨#[40, 46, 41]⟩ : ByteArray)).bind fun bt150 => (some (bt150.1, bt150.2.1, bt150.2.2))) else (if bt147.1 = 1 then ((spec_l1Cur_pick.f s0_0 bt147.2.1 bt147.2.2 2).bind fun bt153 => ((spec_l1Cur_sureTree.f k s0_0 bt153.2.1 bt153.2.2 (wrap64 (8 + bt153.1))).bind fun bt156 => (some (bt156.1, bt156.2.1, bt156.2.2)))) else (some (bt144.1, bt147.2.1, bt147.2.2)))))) = some (r1, r2, r3) := H
  have A3 := Aside0.mk A30
  clear A30
  replace H := Option.bind_eq_some_iff.mp H
  obtain ⟨⟨t144, t145, t146⟩, A40, H⟩ := H
  replace H : ((spec_l1Cur_pick.f s0_0 t145 t146 14).bind fun bt147 => (if bt147.1 = 0 then ((spec_l1Cur_spoilt.f k s0_0 bt147.2.1 bt147.2.2 t144 (⟨#[40, 46, 41]⟩ : ByteArray)).bind fun bt150 => (some (bt150.1, bt150.2.1, bt150.2.2))) else (if bt147.1 = 1 then ((spec_l1Cur_pick.f s0_0 bt147.2.1 bt147.2.2 2).bind fun bt153 => ((spec_l1Cur_sureTree.f k s0_0 bt153.2.1 bt153.2.2 (wrap64 (8 + bt153.1))).bind fun bt156 => (some (bt156.1, bt156.2.1, bt156.2.2)))) else (some (t144, bt147.2.1, bt147.2.2))))) = some (r1, r2, r3) := H
  have A4 := Aside0.mk A40
  clear A40
  replace H := Option.bind_eq_some_iff.mp H
  obtain ⟨⟨t147, t148, t149⟩, A50, H⟩ := H
  replace H : (if t147 = 0 then ((spec_l1Cur_spoilt.f k s0_0 t148 t149 t144 (⟨#[40, 46, 41]⟩ : ByteArray)).bind fun bt150 => (some (bt150.1, bt150.2.1, bt150.2.2))) else (if t147 = 1 then ((spec_l1Cur_pick.f s0_0 t148 t149 2).bind fun bt153 => ((spec_l1Cur_sureTree.f k s0_0 bt153.2.1 bt153.2.2 (wrap64 (8 + bt153.1))).bind fun bt156 => (some (bt156.1, bt156.2.1, bt156.2.2)))) else (some (t144, t148, t149)))) = some (r1, r2, r3) := H
  have A5 := Aside0.mk A50
  clear A50
  by_cases c6 : t147 = 0
  · rw [if_pos c6] at H
    have c6b0 : (t147 == 0) = true := beq_iff_eq.mpr c6
    have c6b1 : (t147 != 0) = false := bne_eq_false_iff_eq.mpr c6
    clear c6
    replace H := Option.bind_eq_some_iff.mp H
    obtain ⟨⟨t150, t151, t152⟩, A70, H⟩ := H
    replace H : (some (t150, t151, t152)) = some (r1, r2, r3) := H
    have A7 := Aside0.mk A70
    clear A70
    simp only [Option.some.injEq, Prod.mk.injEq] at H
    obtain ⟨rfl, rfl, rfl⟩ := H
    go_enter Tryz.func55, Tryz.ntmps55
    go_wp2_with (first | ((with_reducible refine gate_callee (f := 24) rfl ?_); refine goesL_ (some 10) rfl rfl Tryz.func24 (by kernel_rfl) rfl #[.pointer (some ⟨g, 0, none⟩), .int .i64 (wrap64 (a1 + 1))] rfl lm ?_; (with_reducible refine (spec_l1Cur_pick.calls g s0_0 s0_1 s0_2 (wrap64 (a1 + 1)) t141 t142 t143 w0 _ ?side1 ?side2 A3.out).mono ?_); (case side1 => exact lI47 HI0.out); (case side2 => exact lB HB.out); rintro e w8 ⟨rfl, hi, hb, hk⟩; refine ⟨_, rfl, ?_⟩; have n0_ := Aside0.mk (KeepBut.trans (lK HK.out) hk (.inl rfl)); have n1_ := Aside0.mk (hb); have n2_ := Aside0.mk (hi); clear HK HB HI0; have HK := n0_; have HB := n1_; have HI0 := n2_; clear n0_ n1_ n2_; (try clear hb); (try clear hb2); (try clear hk); (try clear hi)) | ((with_reducible refine gate_callee (f := 48) rfl ?_); refine goesL_ (some 11) rfl rfl Tryz.func48 (by kernel_rfl) rfl #[.pointer (some ⟨g, 0, none⟩), .int .i64 t141] rfl lm ?_; (with_reducible refine (spec_l1Cur_sureTree.calls k g s0_0 t142 t143 t141 t144 t145 t146 w0 _ ?side1 ?side2 A4.out).mono ?_); (case side1 => exact lI47 HI0.out); (case side2 => exact lB HB.out); rintro e w9 ⟨rfl, hi, hb, hk⟩; refine ⟨_, rfl, ?_⟩; have n0_ := Aside0.mk (KeepBut.trans (lK HK.out) hk (.inl rfl)); have n1_ := Aside0.mk (hb); have n2_ := Aside0.mk (hi); clear HK HB HI0; have HK := n0_; have HB := n1_; have HI0 := n2_; clear n0_ n1_ n2_; (try clear hb); (try clear hb2); (try clear hk); (try clear hi)) | ((with_reducible refine gate_callee (f := 24) rfl ?_); refine goesL_ (some 13) rfl rfl Tryz.func24 (by kernel_rfl) rfl #[.pointer (some ⟨g, 0, none⟩), .int .i64 14] rfl lm ?_; (with_reducible refine (spec_l1Cur_pick.calls g s0_0 t145 t146 14 t147 t148 t149 w0 _ ?side1 ?side2 A5.out).mono ?_); (case side1 => exact lI47 HI0.out); (case side2 => exact lB HB.out); rintro e w10 ⟨rfl, hi, hb, hk⟩; refine ⟨_, rfl, ?_⟩; have n0_ := Aside0.mk (KeepBut.trans (lK HK.out) hk (.inl rfl)); have n1_ := Aside0.mk (hb); have n2_ := Aside0.mk (hi); clear HK HB HI0; have HK := n0_; have HB := n1_; have HI0 := n2_; clear n0_ n1_ n2_; (try clear hb); (try clear hb2); (try clear hk); (try clear hi)) | ((with_reducible refine gate_callee (f := 56) rfl ?_); refine goesL_ (some 18) rfl rfl Tryz.func56 (by kernel_rfl) rfl #[.pointer (some ⟨g, 0, none⟩), .string t144, .string (⟨#[40, 46, 41]⟩ : ByteArray)] rfl lm ?_; (with_reducible refine (spec_l1Cur_spoilt.calls k g s0_0 t148 t149 t144 (⟨#[40, 46, 41]⟩ : ByteArray) t150 t151 t152 w0 _ ?side1 ?side2 A7.out).mono ?_); (case side1 => exact lI47 HI0.out); (case side2 => exact lB HB.out); rintro e w11 ⟨rfl, hi, hb, hk⟩; refine ⟨_, rfl, ?_⟩; have n0_ := Aside0.mk (KeepBut.trans (lK HK.out) hk (.inl rfl)); have n1_ := Aside0.mk (hb); have n2_ := Aside0.mk (hi); clear HK HB HI0; have HK := n0_; have HB := n1_; have HI0 := n2_; clear n0_ n1_ n2_; (try clear hb); (try clear hb2); (try clear hk); (try clear hi)))
    go_ret
    exact ⟨lx, by exact lI47 HI0.out, by exact lB HB.out, by exact lK HK.out⟩
  rw [if_neg c6] at H
  have c6b0 : (t147 == 0) = false := beq_eq_false_iff_ne.mpr c6
  have c6b1 : (t147 != 0) = true := bne_iff_ne.mpr c6
  by_cases c12 : t147 = 1
  rotate_left
  · rw [if_neg c12] at H
    have c12b0 : (t147 == 1) = false := beq_eq_false_iff_ne.mpr c12
    have c12b1 : (t147 != 1) = true := bne_iff_ne.mpr c12
    simp only [Option.some.injEq, Prod.mk.injEq] at H
    obtain ⟨rfl, rfl, rfl⟩ := H
    go_enter Tryz.func55, Tryz.ntmps55
    go_wp2_with (first | ((with_reducible refine gate_callee (f := 24) rfl ?_); refine goesL_ (some 10) rfl rfl Tryz.func24 (by kernel_rfl) rfl #[.pointer (some ⟨g, 0, none⟩), .int .i64 (wrap64 (a1 + 1))] rfl lm ?_; (with_reducible refine (spec_l1Cur_pick.calls g s0_0 s0_1 s0_2 (wrap64 (a1 + 1)) t141 t142 t143 w0 _ ?side1 ?side2 A3.out).mono ?_); (case side1 => exact lI47 HI0.out); (case side2 => exact lB HB.out); rintro e w20 ⟨rfl, hi, hb, hk⟩; refine ⟨_, rfl, ?_⟩; have n0_ := Aside0.mk (KeepBut.trans (lK HK.out) hk (.inl rfl)); have n1_ := Aside0.mk (hb); have n2_ := Aside0.mk (hi); clear HK HB HI0; have HK := n0_; have HB := n1_; have HI0 := n2_; clear n0_ n1_ n2_; (try clear hb); (try clear hb2); (try clear hk); (try clear hi)) | ((with_reducible refine gate_callee (f := 48) rfl ?_); refine goesL_ (some 11) rfl rfl Tryz.func48 (by kernel_rfl) rfl #[.pointer (some ⟨g, 0, none⟩), .int .i64 t141] rfl lm ?_; (with_reducible refine (spec_l1Cur_sureTree.calls k g s0_0 t142 t143 t141 t144 t145 t146 w0 _ ?side1 ?side2 A4.out).mono ?_); (case side1 => exact lI47 HI0.out); (case side2 => exact lB HB.out); rintro e w21 ⟨rfl, hi, hb, hk⟩; refine ⟨_, rfl, ?_⟩; have n0_ := Aside0.mk (KeepBut.trans (lK HK.out) hk (.inl rfl)); have n1_ := Aside0.mk (hb); have n2_ := Aside0.mk (hi); clear HK HB HI0; have HK := n0_; have HB := n1_; have HI0 := n2_; clear n0_ n1_ n2_; (try clear hb); (try clear hb2); (try clear hk); (try clear hi)) | ((with_reducible refine gate_callee (f := 24) rfl ?_); refine goesL_ (some 13) rfl rfl Tryz.func24 (by kernel_rfl) rfl #[.pointer (some ⟨g, 0, none⟩), .int .i64 14] rfl lm ?_; (with_reducible refine (spec_l1Cur_pick.calls g s0_0 t145 t146 14 t147 t148 t149 w0 _ ?side1 ?side2 A5.out).mono ?_); (case side1 => exact lI47 HI0.out); (case side2 => exact lB HB.out); rintro e w22 ⟨rfl, hi, hb, hk⟩; refine ⟨_, rfl, ?_⟩; have n0_ := Aside0.mk (KeepBut.trans (lK HK.out) hk (.inl rfl)); have n1_ := Aside0.mk (hb); have n2_ := Aside0.mk (hi); clear HK HB HI0; have HK := n0_; have HB := n1_; have HI0 := n2_; clear n0_ n1_ n2_; (try clear hb); (try clear hb2); (try clear hk); (try clear hi)))
    go_ret
    exact ⟨lx, by exact lI47 HI0.out, by exact lB HB.out, by exact lK HK.out⟩

  rw [if_pos c12] at H
  have c12b0 : (t147 == 1) = true := beq_iff_eq.mpr c12
  have c12b1 : (t147 != 1) = false := bne_eq_false_iff_eq.mpr c12
  clear c12
  replace H := Option.bind_eq_some_iff.mp H
  obtain ⟨⟨t153, t154, t155⟩, A130, H⟩ := H
  replace H : ((spec_l1Cur_sureTree.f k s0_0 t154 t155 (wrap64 (8 + t153))).bind fun bt156 => (some (bt156.1, bt156.2.1, bt156.2.2))) = some (r1, r2, r3) := H
  have A13 := Aside0.mk A130
  clear A130
  replace H := Option.bind_eq_some_iff.mp H
  obtain ⟨⟨t156, t157, t158⟩, A140, H⟩ := H
  replace H : (some (t156, t157, t158)) = some (r1, r2, r3) := H
  have A14 := Aside0.mk A140
  clear A140
  simp only [Option.some.injEq, Prod.mk.injEq] at H
  obtain ⟨rfl, rfl, rfl⟩ := H
  go_enter Tryz.func55, Tryz.ntmps55
  go_wp2_with (first | ((with_reducible refine gate_callee (f := 24) rfl ?_); refine goesL_ (some 10) rfl rfl Tryz.func24 (by kernel_rfl) rfl #[.pointer (some ⟨g, 0, none⟩), .int .i64 (wrap64 (a1 + 1))] rfl lm ?_; (with_reducible refine (spec_l1Cur_pick.calls g s0_0 s0_1 s0_2 (wrap64 (a1 + 1)) t141 t142 t143 w0 _ ?side1 ?side2 A3.out).mono ?_); (case side1 => exact lI47 HI0.out); (case side2 => exact lB HB.out); rintro e w15 ⟨rfl, hi, hb, hk⟩; refine ⟨_, rfl, ?_⟩; have n0_ := Aside0.mk (KeepBut.trans (lK HK.out) hk (.inl rfl)); have n1_ := Aside0.mk (hb); have n2_ := Aside0.mk (hi); clear HK HB HI0; have HK := n0_; have HB := n1_; have HI0 := n2_; clear n0_ n1_ n2_; (try clear hb); (try clear hb2); (try clear hk); (try clear hi)) | ((with_reducible refine gate_callee (f := 48) rfl ?_); refine goesL_ (some 11) rfl rfl Tryz.func48 (by kernel_rfl) rfl #[.pointer (some ⟨g, 0, none⟩), .int .i64 t141] rfl lm ?_; (with_reducible refine (spec_l1Cur_sureTree.calls k g s0_0 t142 t143 t141 t144 t145 t146 w0 _ ?side1 ?side2 A4.out).mono ?_); (case side1 => exact lI47 HI0.out); (case side2 => exact lB HB.out); rintro e w16 ⟨rfl, hi, hb, hk⟩; refine ⟨_, rfl, ?_⟩; have n0_ := Aside0.mk (KeepBut.trans (lK HK.out) hk (.inl rfl)); have n1_ := Aside0.mk (hb); have n2_ := Aside0.mk (hi); clear HK HB HI0; have HK := n0_; have HB := n1_; have HI0 := n2_; clear n0_ n1_ n2_; (try clear hb); (try clear hb2); (try clear hk); (try clear hi)) | ((with_reducible refine gate_callee (f := 24) rfl ?_); refine goesL_ (some 13) rfl rfl Tryz.func24 (by kernel_rfl) rfl #[.pointer (some ⟨g, 0, none⟩), .int .i64 14] rfl lm ?_; (with_reducible refine (spec_l1Cur_pick.calls g s0_0 t145 t146 14 t147 t148 t149 w0 _ ?side1 ?side2 A5.out).mono ?_); (case side1 => exact lI47 HI0.out); (case side2 => exact lB HB.out); rintro e w17 ⟨rfl, hi, hb, hk⟩; refine ⟨_, rfl, ?_⟩; have n0_ := Aside0.mk (KeepBut.trans (lK HK.out) hk (.inl rfl)); have n1_ := Aside0.mk (hb); have n2_ := Aside0.mk (hi); clear HK HB HI0; have HK := n0_; have HB := n1_; have HI0 := n2_; clear n0_ n1_ n2_; (try clear hb); (try clear hb2); (try clear hk); (try clear hi)) | ((with_reducible refine gate_callee (f := 24) rfl ?_); refine goesL_ (some 23) rfl rfl Tryz.func24 (by kernel_rfl) rfl #[.pointer (some ⟨g, 0, none⟩), .int .i64 2] rfl lm ?_; (with_reducible refine (spec_l1Cur_pick.calls g s0_0 t148 t149 2 t153 t154 t155 w0 _ ?side1 ?side2 A13.out).mono ?_); (case side1 => exact lI47 HI0.out); (case side2 => exact lB HB.out); rintro e w18 ⟨rfl, hi, hb, hk⟩; refine ⟨_, rfl, ?_⟩; have n0_ := Aside0.mk (KeepBut.trans (lK HK.out) hk (.inl rfl)); have n1_ := Aside0.mk (hb); have n2_ := Aside0.mk (hi); clear HK HB HI0; have HK := n0_; have HB := n1_; have HI0 := n2_; clear n0_ n1_ n2_; (try clear hb); (try clear hb2); (try clear hk); (try clear hi)) | ((with_reducible refine gate_callee (f := 48) rfl ?_); refine goesL_ (some 25) rfl rfl Tryz.func48 (by kernel_rfl) rfl #[.pointer (some ⟨g, 0, none⟩), .int .i64 (wrap64 (8 + t153))] rfl lm ?_; (with_reducible refine (spec_l1Cur_sureTree.calls k g s0_0 t154 t155 (wrap64 (8 + t153)) t156 t157 t158 w0 _ ?side1 ?side2 A14.out).mono ?_); (case side1 => exact lI47 HI0.out); (case side2 => exact lB HB.out); rintro e w19 ⟨rfl, hi, hb, hk⟩; refine ⟨_, rfl, ?_⟩; have n0_ := Aside0.mk (KeepBut.trans (lK HK.out) hk (.inl rfl)); have n1_ := Aside0.mk (hb); have n2_ := Aside0.mk (hi); clear HK HB HI0; have HK := n0_; have HB := n1_; have HI0 := n2_; clear n0_ n1_ n2_; (try clear hb); (try clear hb2); (try clear hk); (try clear hi)))
  go_ret
  exact ⟨lx, by exact lI47 HI0.out, by exact lB HB.out, by exact lK HK.out⟩
def spec_l1Cur_pair.f (k : Nat) (s0_0 : List Int) (s0_1 : Int) (s0_2 : Int) (a1 : Int) : Option (ByteArray × ByteArray × Int × Int) := (spec_l1Cur_pick.f s0_0 s0_1 s0_2 (wrap64 (a1 + 1))).bind fun bt160 => ((spec_l1Cur_surePair.f k s0_0 bt160.2.1 bt160.2.2 bt160.1).bind fun bt163 => ((spec_l1Cur_pick.f s0_0 bt163.2.2.1 bt163.2.2.2 14).bind fun bt168 => (if bt168.1 = 0 then ((spec_l1Cur_tree.f k s0_0 bt168.2.1 bt168.2.2 a1).bind fun bt171 => (some (bt163.1, bt171.1, bt171.2.1, bt171.2.2))) else (if bt168.1 = 1 then ((spec_l1Cur_spoilt.f k s0_0 bt168.2.1 bt168.2.2 bt163.1 (⟨#[40, 46, 41]⟩ : ByteArray)).bind fun bt174 => (some (bt174.1, bt163.2.1, bt174.2.1, bt174.2.2))) else (if bt168.1 = 2 then ((spec_l1Cur_pick.f s0_0 bt168.2.1 bt168.2.2 2).bind fun bt177 => ((spec_l1Cur_surePair.f k s0_0 bt177.2.1 bt177.2.2 (wrap64 (8 + bt177.1))).bind fun bt180 => (some (bt180.1, bt180.2.1, bt180.2.2.1, bt180.2.2.2)))) else (if bt168.1 = 3 then ((spec_l1Cur_pick.f s0_0 bt168.2.1 bt168.2.2 4).bind fun bt184 => ((spec_prGenerator.f bt184.1).bind fun bt187 => (some (bt187.1, bt187.2, bt184.2.1, bt184.2.2)))) else (some (bt163.1, bt163.2.1, bt168.2.1, bt168.2.2))))))))
theorem spec_l1Cur_pair.mono : ∀ a0 a1 a2 a3 k, LeO (spec_l1Cur_pair.f k a0 a1 a2 a3) (spec_l1Cur_pair.f (k + 1) a0 a1 a2 a3) := by
  intro a0 a1 a2 a3 k
  unfold spec_l1Cur_pair.f
  repeat' first
      | (with_reducible exact spec_l1Cur_spoilt.mono _ _ _ _ _ _)
      | (with_reducible exact spec_l1Cur_surePair.mono _ _ _ _ _)
      | (with_reducible exact spec_l1Cur_tree.mono _ _ _ _ _)
      | (with_reducible exact LeO.refl _)
      | (with_reducible exact LeO.none _)
      | (with_reducible refine LeO.ite ?_ ?_)
      | (with_reducible refine LeO.bind ?_ (fun _ => ?_))
      | exact spec_l1Cur_spoilt.mono _ _ _ _ _ _
      | exact spec_l1Cur_surePair.mono _ _ _ _ _
      | exact spec_l1Cur_tree.mono _ _ _ _ _
      | exact LeO.none _
      | refine LeO.ite ?_ ?_
      | refine LeO.bind ?_ (fun _ => ?_)
set_option maxHeartbeats 8000000 in
set_option maxRecDepth 100000 in
theorem spec_l1Cur_pair.calls (k : Nat) (g : Nat) (s0_0 : List Int) (s0_1 : Int) (s0_2 : Int) (a1 : Int) (r1 : ByteArray) (r2 : ByteArray) (r3 : Int) (r4 : Int) (w0 w : World) (hI : IsS47 w0 w g s0_0 s0_1 s0_2) (hB : Below w0.heap.size w0 w) (h : spec_l1Cur_pair.f k s0_0 s0_1 s0_2 a1 = some (r1, r2, r3, r4)) :
    Calls Tryz.prog 29 #[.pointer (some ⟨g, 0, none⟩), .int .i64 a1] w fun e w' => e = .returned (.agg #[.string r1, .string r2]) ∧ IsS47 w0 w' g s0_0 r3 r4 ∧ Below w0.heap.size w0 w' ∧ KeepBut w w' g none := by
  have hu25 := Tryz.underlying25
  have HI0 := Aside0.mk hI
  have HK := Aside0.mk (KeepBut.refl w g none)
  have HL := Aside0.mk hB.size
  clear hI
  have HW0 := Aside0.mk hB.size
  have HB := Aside0.mk hB
  clear hB
  have H : ((spec_l1Cur_pick.f s0_0 s0_1 s0_2 (wrap64 (a1 + 1))).bind fun bt160 => ((spec_l1Cur_surePair.f k s0_0 bt160.2.1 bt160.2.2 bt160.1).bind fun bt163 => ((spec_l1Cur_pick.f s0_0 bt163.2.2.1 bt163.2.2.2 14).bind fun bt168 => (if bt168.1 = 0 then ((spec_l1Cur_tree.f k s0_0 bt168.2.1 bt168.2.2 a1).bind fun bt171 => (some (bt163.1, bt171.1, bt171.2.1, bt171.2.2))) else (if bt168.1 = 1 then ((spec_l1Cur_spoilt.f k s0_0 bt168.2.1 bt168.2.2 bt163.1 (⟨#[40, 46, 41]⟩ : ByteArray)).bind fun bt174 => (some (bt174.1, bt163.2.1, bt174.2.1, bt174.2.2))) else (if bt168.1 = 2 then ((spec_l1Cur_pick.f s0_0 bt168.2.1 bt168.2.2 2).bind fun bt177 => ((spec_l1Cur_surePair.f k s0_0 bt177.2.1 bt177.2.2 (wrap64 (8 + bt177.1))).bind fun bt180 => (some (bt180.1, bt180.2.1, bt180.2.2.1, bt180.2.2.2)))) else (if bt168.1 = 3 then ((spec_l1Cur_pick.f s0_0 bt168.2.1 bt168.2.2 4).bind fun bt184 => ((spec_prGenerator.f bt184.1).bind fun bt187 => (some (bt187.1, bt187.2, bt184.2.1, bt184.2.2)))) else (some (bt163.1, bt163.2.1, bt168.2.1, bt168.2.2))))))))) = some (r1, r2, r3, r4) := h
  clear h
  replace H := Option.bind_eq_some_iff.mp H
  obtain ⟨⟨t160, t161, t162⟩, A30, H⟩ := H
  replace H : ((spec_l1Cur_surePair.f k s0_0 t161 t162 t160).bind fun bt163 => ((spec_l1Cur_pick.f s0_0 bt163.2.2.1 bt163.2.2.2 14).bind fun bt168 => (if bt168.1 = 0 then ((spec_l1Cur_tree.f k s0_0 bt168.2.1 bt168.2.2 a1).bind fun bt171 => (some (bt163.1, bt171.1, bt171.2.1, bt171.2.2))) else (if bt168.1 = 1 then ((spec_l1Cur_spoilt.f k s0_0 bt168.2.1 bt168.2.2 bt163.1 (⟨#[40, 46, 41]⟩ : ByteArray)).bind fun bt174 => (some (bt174.1, bt163.2.1, bt174.2.1, bt174.2.2))) else (if bt168.1 = 2 then ((spec_l1Cur_pick.f s0_0 bt168.2.1 bt168.2.2 2).bind fun bt177 => ((spec_l1Cur_surePair.f k s0_0 bt177.2.1 bt177.2.2 (wrap64 (8 + bt177.1))).bind fun bt180 => (some (bt180.1, bt180.2.1, bt180.2.2.1, bt180.2.2.2)))) else (if bt168.1 = 3 then ((spec_l1Cur_pick.f s0_0 bt168.2.1 bt168.2.2 4).bind fun bt184 => ((spec_prGenerator.f bt184.1).bind fun bt187 => (some (bt187.1, bt187.2, bt184.2.1, bt184.2.2)))) else (some (bt163.1, bt163.2.1, bt168.2.1, bt168.2.2)))))))) = some (r1, r2, r3, r4) := H
  have A3 := Aside0.mk A30
  clear A30
  replace H := Option.bind_eq_some_iff.mp H
  obtain ⟨⟨t163, t164, t165, t166⟩, A40, H⟩ := H
  replace H : ((spec_l1Cur_pick.f s0_0 t165 t166 14).bind fun bt168 => (if bt168.1 = 0 then ((spec_l1Cur_tree.f k s0_0 bt168.2.1 bt168.2.2 a1).bind fun bt171 => (some (t163, bt171.1, bt171.2.1, bt171.2.2))) else (if bt168.1 = 1 then ((spec_l1Cur_spoilt.f k s0_0 bt168.2.1 bt168.2.2 t163 (⟨#[40, 46, 41]⟩ : ByteArray)).bind fun bt174 => (some (bt174.1, t164, bt174.2.1, bt174.2.2))) else (if bt168.1 = 2 then ((spec_l1Cur_pick.f s0_0 bt168.2.1 bt168.2.2 2).bind fun bt177 => ((spec_l1Cur_surePair.f k s0_0 bt177.2.1 bt177.2.2 (wrap64 (8 + bt177.1))).bind fun bt180 => (some (bt180.1, bt180.2.1, bt180.2.2.1, bt180.2.2.2)))) else (if bt168.1 = 3 then ((spec_l1Cur_pick.f s0_0 bt168.2.1 bt168.2.2 4).bind fun bt184 => ((spec_prGenerator.f bt184.1).bind fun bt187 => (some (bt187.1, bt187.2, bt184.2.1, bt184.2.2)))) else (some (t163, t164, bt168.2.1, bt168.2.2))))))) = some (r1, r2, r3, r4) := H
  have A4 := Aside0.mk A40
  clear A40
  replace H := Option.bind_eq_some_iff.mp H
  obtain ⟨⟨t168, t169, t170⟩, A50, H⟩ := H
  replace H : (if t168 = 0 then ((spec_l1Cur_tree.f k s0_0 t169 t170 a1).bind fun bt171 => (some (t163, bt171.1, bt171.2.1, bt171.2.2))) else (if t168 = 1 then ((spec_l1Cur_spoilt.f k s0_0 t169 t170 t163 (⟨#[40, 46, 41]⟩ : ByteArray)).bind fun bt174 => (some (bt174.1, t164, bt174.2.1, bt174.2.2))) else (if t168 = 2 then ((spec_l1Cur_pick.f s0_0 t169 t170 2).bind fun bt177 => ((spec_l1Cur_surePair.f k s0_0 bt177.2.1 bt177.2.2 (wrap64 (8 + bt177.1))).bind fun bt180 => (some (bt180.1, bt180.2.1, bt180.2.2.1, bt180.2.2.2)))) else (if t168 = 3 then ((spec_l1Cur_pick.f s0_0 t169 t170 4).bind fun bt184 => ((spec_prGenerator.f bt184.1).bind fun bt187 => (some (bt187.1, bt187.2, bt184.2.1, bt184.2.2)))) else (some (t163, t164, t169, t170)))))) = some (r1, r2, r3, r4) := H
  have A5 := Aside0.mk A50
  clear A50
  by_cases c6 : t168 = 0
  · rw [if_pos c6] at H
    have c6b0 : (t168 == 0) = true := beq_iff_eq.mpr c6
    have c6b1 : (t168 != 0) = false := bne_eq_false_iff_eq.mpr c6
    clear c6
    replace H := Option.bind_eq_some_iff.mp H
    obtain ⟨⟨t171, t172, t173⟩, A70, H⟩ := H
    replace H : (some (t163, t171, t172, t173)) = some (r1, r2, r3, r4) := H
    have A7 := Aside0.mk A70
    clear A70
    simp only [Option.some.injEq, Prod.mk.injEq] at H
    obtain ⟨rfl, rfl, rfl, rfl⟩ := H
    go_enter Tryz.func29, Tryz.ntmps29
    go_wp2_with (first | ((with_reducible refine gate_dst (N := 4) rfl ?_); refine box_event ?hg (N := 4) ?hd (cs := #[.string (⟨#[]⟩ : ByteArray), .string (⟨#[]⟩ : ByteArray)]) (t := 25) ?hr ?_; (case hd => rfl); (case hg => rfl); (case hr => exact lr); intro gb159 hg w8 hbox hb; have n0_ := Aside0.mk (IsS47.below (lI47 HI0.out) hb); have n1_ := Aside0.mk (KeepBut.trans (lK HK.out) (KeepBut.of_below hb g none) (.inl rfl)); have n2_ := Aside0.mk (below_step (lB HB.out) hb); have n3_ := Aside0.mk (hbox); have n4_ := Aside0.mk ((by rw [hg]; exact (keep_size (w := w) (g := g) (row := none) (lK HK.out)) : w.heap.size ≤ gb159)); have n5_ := Aside0.mk ((Nat.le_trans HW0.out (by rw [hg]; exact (keep_size (w := w) (g := g) (row := none) (lK HK.out)) : w.heap.size ≤ gb159) : w0.heap.size ≤ gb159)); have n6_ := Aside0.mk ((by rw [hg]; exact Nat.ne_of_lt (IsS47.lt (show IsS47 w0 _ g s0_0 s0_1 s0_2 from by exact lI47 HI0.out)) : g ≠ gb159)); have n7_ := Aside0.mk ((by rw [hg]; exact Nat.ne_of_gt (IsS47.lt (show IsS47 w0 _ g s0_0 s0_1 s0_2 from by exact lI47 HI0.out)) : gb159 ≠ g)); clear HI0 HK HB; have HI0 := n0_; have HK := n1_; have HB := n2_; have BK159 := n3_; have GW159 := n4_; have GE159 := n5_; have NB0_159 := n6_; have NB159_0 := n7_; clear n0_ n1_ n2_ n3_ n4_ n5_ n6_ n7_; clear hb hbox hg) | ((with_reducible refine gate_callee (f := 24) rfl ?_); refine goesL_ (some 10) rfl rfl Tryz.func24 (by kernel_rfl) rfl #[.pointer (some ⟨g, 0, none⟩), .int .i64 (wrap64 (a1 + 1))] rfl lm ?_; (with_reducible refine (spec_l1Cur_pick.calls g s0_0 s0_1 s0_2 (wrap64 (a1 + 1)) t160 t161 t162 w0 _ ?side1 ?side2 A3.out).mono ?_); (case side1 => exact lI47 HI0.out); (case side2 => exact lB HB.out); rintro e w9 ⟨rfl, hi, hb, hk⟩; refine ⟨_, rfl, ?_⟩; have n0_ := Aside0.mk (KeepBut.blk hk (g' := gb159) (o := .cells #[.string (⟨#[]⟩ : ByteArray), .string (⟨#[]⟩ : ByteArray)] 25 (0, 0)) (lb BK159.out) NB159_0.out (by simp)); have n1_ := Aside0.mk (KeepBut.trans (lK HK.out) hk (.inl rfl)); have n2_ := Aside0.mk (hb); have n3_ := Aside0.mk (hi); clear BK159 HK HB HI0; have BK159 := n0_; have HK := n1_; have HB := n2_; have HI0 := n3_; clear n0_ n1_ n2_ n3_; (try clear hb); (try clear hb2); (try clear hk); (try clear hi)) | ((with_reducible refine gate_callee (f := 23) rfl ?_); refine goesL_ (some 11) rfl rfl Tryz.func23 (by kernel_rfl) rfl #[.pointer (some ⟨g, 0, none⟩), .int .i64 t160] rfl lm ?_; (with_reducible refine (spec_l1Cur_surePair.calls k g s0_0 t161 t162 t160 t163 t164 t165 t166 w0 _ ?side1 ?side2 A4.out).mono ?_); (case side1 => exact lI47 HI0.out); (case side2 => exact lB HB.out); rintro e w10 ⟨rfl, hi, hb, hk⟩; refine ⟨_, rfl, ?_⟩; have n0_ := Aside0.mk (KeepBut.blk hk (g' := gb159) (o := .cells #[.string (⟨#[]⟩ : ByteArray), .string (⟨#[]⟩ : ByteArray)] 25 (0, 0)) (lb BK159.out) NB159_0.out (by simp)); have n1_ := Aside0.mk (KeepBut.trans (lK HK.out) hk (.inl rfl)); have n2_ := Aside0.mk (hb); have n3_ := Aside0.mk (hi); clear BK159 HK HB HI0; have BK159 := n0_; have HK := n1_; have HB := n2_; have HI0 := n3_; clear n0_ n1_ n2_ n3_; (try clear hb); (try clear hb2); (try clear hk); (try clear hi)) | ((with_reducible refine gate_dst (N := 5) rfl ?_); refine box_event ?hg (N := 5) ?hd (cs := #[.string (⟨#[]⟩ : ByteArray), .string (⟨#[]⟩ : ByteArray)]) (t := 25) ?hr ?_; (case hd => rfl); (case hg => rfl); (case hr => exact lr); intro gb167 hg w11 hbox hb; have n0_ := Aside0.mk (IsS47.below (lI47 HI0.out) hb); have n1_ := Aside0.mk (blk_below (lb BK159.out) hb); have n2_ := Aside0.mk (KeepBut.trans (lK HK.out) (KeepBut.of_below hb g none) (.inl rfl)); have n3_ := Aside0.mk (below_step (lB HB.out) hb); have n4_ := Aside0.mk (hbox); have n5_ := Aside0.mk ((by rw [hg]; exact (keep_size (w := w) (g := g) (row := none) (lK HK.out)) : w.heap.size ≤ gb167)); have n6_ := Aside0.mk ((Nat.le_trans HW0.out (by rw [hg]; exact (keep_size (w := w) (g := g) (row := none) (lK HK.out)) : w.heap.size ≤ gb167) : w0.heap.size ≤ gb167)); have n7_ := na hg (lb BK159.out); have n8_ := nz hg (lb BK159.out); have n9_ := Aside0.mk ((by rw [hg]; exact Nat.ne_of_lt (IsS47.lt (show IsS47 w0 _ g s0_0 t165 t166 from by exact lI47 HI0.out)) : g ≠ gb167)); have n10_ := Aside0.mk ((by rw [hg]; exact Nat.ne_of_gt (IsS47.lt (show IsS47 w0 _ g s0_0 t165 t166 from by exact lI47 HI0.out)) : gb167 ≠ g)); clear HI0 BK159 HK HB; have HI0 := n0_; have BK159 := n1_; have HK := n2_; have HB := n3_; have BK167 := n4_; have GW167 := n5_; have GE167 := n6_; have NB159_167 := n7_; have NB167_159 := n8_; have NB0_167 := n9_; have NB167_0 := n10_; clear n0_ n1_ n2_ n3_ n4_ n5_ n6_ n7_ n8_ n9_ n10_; clear hb hbox hg; have hnb12 := NB167_159.out; have hnc12 := NB159_167.out; have hnb13 := NB167_0.out; have hnc13 := NB0_167.out; have hcz14_0 : w11.cell? ⟨gb167, 0, none⟩ = some (.string (⟨#[]⟩ : ByteArray)) := (blk_cell BK167.out 0).trans rfl; have hcz14_1 : w11.cell? ⟨gb167, 1, none⟩ = some (.string (⟨#[]⟩ : ByteArray)) := (blk_cell BK167.out 1).trans rfl; have hfz14_0 := blk_frozen BK167.out 0; have hfz14_1 := blk_frozen BK167.out 1) | ((with_reducible refine gate_callee (f := 24) rfl ?_); refine goesL_ (some 13) rfl rfl Tryz.func24 (by kernel_rfl) rfl #[.pointer (some ⟨g, 0, none⟩), .int .i64 14] rfl lm ?_; (with_reducible refine (spec_l1Cur_pick.calls g s0_0 t165 t166 14 t168 t169 t170 w0 _ ?side1 ?side2 A5.out).mono ?_); (case side1 => exact lI47 HI0.out); (case side2 => exact lB HB.out); rintro e w15 ⟨rfl, hi, hb, hk⟩; refine ⟨_, rfl, ?_⟩; have n0_ := Aside0.mk (KeepBut.blk hk (g' := gb159) (o := .cells #[.string (⟨#[]⟩ : ByteArray), .string (⟨#[]⟩ : ByteArray)] 25 (0, 0)) (by (with_reducible repeat (first | refine blk_drewN ?_ _ | refine blk_drew ?_ | refine blk_alloc ?_ _)); refine blk_far ?_ NB159_167.out _; (with_reducible repeat (first | refine blk_drewN ?_ _ | refine blk_drew ?_ | refine blk_alloc ?_ _)); refine blk_far ?_ NB159_167.out _; exact lb BK159.out) NB159_0.out (by simp)); have n1_ := Aside0.mk (KeepBut.blk hk (g' := gb167) (o := .cells #[.string t163, .string t164] 25 (0, 0)) (by (with_reducible repeat (first | refine blk_drewN ?_ _ | refine blk_drew ?_ | refine blk_alloc ?_ _)); refine blk_put (cs := #[.string t163, .string (⟨#[]⟩ : ByteArray)]) ?_ 1 _ rfl; (with_reducible repeat (first | refine blk_drewN ?_ _ | refine blk_drew ?_ | refine blk_alloc ?_ _)); refine blk_put (cs := #[.string (⟨#[]⟩ : ByteArray), .string (⟨#[]⟩ : ByteArray)]) ?_ 0 _ rfl; exact lb BK167.out) NB167_0.out (by simp)); have n2_ := Aside0.mk (KeepBut.trans (lK HK.out) hk (.inl rfl)); have n3_ := Aside0.mk (hb); have n4_ := Aside0.mk (hi); clear BK159 BK167 HK HB HI0; have BK159 := n0_; have BK167 := n1_; have HK := n2_; have HB := n3_; have HI0 := n4_; clear n0_ n1_ n2_ n3_ n4_; (try clear hb); (try clear hb2); (try clear hk); (try clear hi)) | ((with_reducible refine gate_callee (f := 55) rfl ?_); refine goesL_ (some 18) rfl rfl Tryz.func55 (by kernel_rfl) rfl #[.pointer (some ⟨g, 0, none⟩), .int .i64 a1] rfl lm ?_; (with_reducible refine (spec_l1Cur_tree.calls k g s0_0 t169 t170 a1 t171 t172 t173 w0 _ ?side1 ?side2 A7.out).mono ?_); (case side1 => exact lI47 HI0.out); (case side2 => exact lB HB.out); rintro e w16 ⟨rfl, hi, hb, hk⟩; refine ⟨_, rfl, ?_⟩; have n0_ := Aside0.mk (KeepBut.blk hk (g' := gb159) (o := .cells #[.string (⟨#[]⟩ : ByteArray), .string (⟨#[]⟩ : ByteArray)] 25 (0, 0)) (lb BK159.out) NB159_0.out (by simp)); have n1_ := Aside0.mk (KeepBut.blk hk (g' := gb167) (o := .cells #[.string t163, .string t164] 25 (0, 0)) (lb BK167.out) NB167_0.out (by simp)); have n2_ := Aside0.mk (KeepBut.trans (lK HK.out) hk (.inl rfl)); have n3_ := Aside0.mk (hb); have n4_ := Aside0.mk (hi); clear BK159 BK167 HK HB HI0; have BK159 := n0_; have BK167 := n1_; have HK := n2_; have HB := n3_; have HI0 := n4_; clear n0_ n1_ n2_ n3_ n4_; (try clear hb); (try clear hb2); (try clear hk); (try clear hi); have hcz17_0 : w16.cell? ⟨gb167, 0, none⟩ = some (.string t163) := (blk_cell BK167.out 0).trans rfl; have hcz17_1 : w16.cell? ⟨gb167, 1, none⟩ = some (.string t164) := (blk_cell BK167.out 1).trans rfl; have hfz17_0 := blk_frozen BK167.out 0; have hfz17_1 := blk_frozen BK167.out 1; have hnb18 := NB159_0.out; have hnc18 := NB0_159.out; have hcz19_0 : w16.cell? ⟨gb159, 0, none⟩ = some (.string (⟨#[]⟩ : ByteArray)) := (blk_cell BK159.out 0).trans rfl; have hcz19_1 : w16.cell? ⟨gb159, 1, none⟩ = some (.string (⟨#[]⟩ : ByteArray)) := (blk_cell BK159.out 1).trans rfl; have hfz19_0 := blk_frozen BK159.out 0; have hfz19_1 := blk_frozen BK159.out 1))
    refine bodyPost_ret (results_cell_row rfl _ _ gb159 25 #[.string t163, .string t171] (0, 0) _ rfl (by (with_reducible repeat (first | refine blk_drewN ?_ _ | refine blk_drew ?_ | refine blk_alloc ?_ _)); refine blk_put (cs := #[.string t163, .string (⟨#[]⟩ : ByteArray)]) ?_ 1 _ rfl; (with_reducible repeat (first | refine blk_drewN ?_ _ | refine blk_drew ?_ | refine blk_alloc ?_ _)); refine blk_put (cs := #[.string (⟨#[]⟩ : ByteArray), .string (⟨#[]⟩ : ByteArray)]) ?_ 0 _ rfl; (with_reducible repeat (first | refine blk_drewN ?_ _ | refine blk_drew ?_ | refine blk_alloc ?_ _)); refine blk_far ?_ NB159_167.out _; exact lb BK159.out) Tryz.underlying25 rfl (by kernel_rfl)) rfl ?_
    exact ⟨lx, by exact lI47 HI0.out, by exact lB HB.out, by exact lK HK.out⟩
  rw [if_neg c6] at H
  have c6b0 : (t168 == 0) = false := beq_eq_false_iff_ne.mpr c6
  have c6b1 : (t168 != 0) = true := bne_iff_ne.mpr c6
  by_cases c20 : t168 = 1
  · rw [if_pos c20] at H
    have c20b0 : (t168 == 1) = true := beq_iff_eq.mpr c20
    have c20b1 : (t168 != 1) = false := bne_eq_false_iff_eq.mpr c20
    clear c20
    replace H := Option.bind_eq_some_iff.mp H
    obtain ⟨⟨t174, t175, t176⟩, A210, H⟩ := H
    replace H : (some (t174, t164, t175, t176)) = some (r1, r2, r3, r4) := H
    have A21 := Aside0.mk A210
    clear A210
    simp only [Option.some.injEq, Prod.mk.injEq] at H
    obtain ⟨rfl, rfl, rfl, rfl⟩ := H
    go_enter Tryz.func29, Tryz.ntmps29
    go_wp2_with (first | ((with_reducible refine gate_dst (N := 4) rfl ?_); refine box_event ?hg (N := 4) ?hd (cs := #[.string (⟨#[]⟩ : ByteArray), .string (⟨#[]⟩ : ByteArray)]) (t := 25) ?hr ?_; (case hd => rfl); (case hg => rfl); (case hr => exact lr); intro gb159 hg w22 hbox hb; have n0_ := Aside0.mk (IsS47.below (lI47 HI0.out) hb); have n1_ := Aside0.mk (KeepBut.trans (lK HK.out) (KeepBut.of_below hb g none) (.inl rfl)); have n2_ := Aside0.mk (below_step (lB HB.out) hb); have n3_ := Aside0.mk (hbox); have n4_ := Aside0.mk ((by rw [hg]; exact (keep_size (w := w) (g := g) (row := none) (lK HK.out)) : w.heap.size ≤ gb159)); have n5_ := Aside0.mk ((Nat.le_trans HW0.out (by rw [hg]; exact (keep_size (w := w) (g := g) (row := none) (lK HK.out)) : w.heap.size ≤ gb159) : w0.heap.size ≤ gb159)); have n6_ := Aside0.mk ((by rw [hg]; exact Nat.ne_of_lt (IsS47.lt (show IsS47 w0 _ g s0_0 s0_1 s0_2 from by exact lI47 HI0.out)) : g ≠ gb159)); have n7_ := Aside0.mk ((by rw [hg]; exact Nat.ne_of_gt (IsS47.lt (show IsS47 w0 _ g s0_0 s0_1 s0_2 from by exact lI47 HI0.out)) : gb159 ≠ g)); clear HI0 HK HB; have HI0 := n0_; have HK := n1_; have HB := n2_; have BK159 := n3_; have GW159 := n4_; have GE159 := n5_; have NB0_159 := n6_; have NB159_0 := n7_; clear n0_ n1_ n2_ n3_ n4_ n5_ n6_ n7_; clear hb hbox hg) | ((with_reducible refine gate_callee (f := 24) rfl ?_); refine goesL_ (some 10) rfl rfl Tryz.func24 (by kernel_rfl) rfl #[.pointer (some ⟨g, 0, none⟩), .int .i64 (wrap64 (a1 + 1))] rfl lm ?_; (with_reducible refine (spec_l1Cur_pick.calls g s0_0 s0_1 s0_2 (wrap64 (a1 + 1)) t160 t161 t162 w0 _ ?side1 ?side2 A3.out).mono ?_); (case side1 => exact lI47 HI0.out); (case side2 => exact lB HB.out); rintro e w23 ⟨rfl, hi, hb, hk⟩; refine ⟨_, rfl, ?_⟩; have n0_ := Aside0.mk (KeepBut.blk hk (g' := gb159) (o := .cells #[.string (⟨#[]⟩ : ByteArray), .string (⟨#[]⟩ : ByteArray)] 25 (0, 0)) (lb BK159.out) NB159_0.out (by simp)); have n1_ := Aside0.mk (KeepBut.trans (lK HK.out) hk (.inl rfl)); have n2_ := Aside0.mk (hb); have n3_ := Aside0.mk (hi); clear BK159 HK HB HI0; have BK159 := n0_; have HK := n1_; have HB := n2_; have HI0 := n3_; clear n0_ n1_ n2_ n3_; (try clear hb); (try clear hb2); (try clear hk); (try clear hi)) | ((with_reducible refine gate_callee (f := 23) rfl ?_); refine goesL_ (some 11) rfl rfl Tryz.func23 (by kernel_rfl) rfl #[.pointer (some ⟨g, 0, none⟩), .int .i64 t160] rfl lm ?_; (with_reducible refine (spec_l1Cur_surePair.calls k g s0_0 t161 t162 t160 t163 t164 t165 t166 w0 _ ?side1 ?side2 A4.out).mono ?_); (case side1 => exact lI47 HI0.out); (case side2 => exact lB HB.out); rintro e w24 ⟨rfl, hi, hb, hk⟩; refine ⟨_, rfl, ?_⟩; have n0_ := Aside0.mk (KeepBut.blk hk (g' := gb159) (o := .cells #[.string (⟨#[]⟩ : ByteArray), .string (⟨#[]⟩ : ByteArray)] 25 (0, 0)) (lb BK159.out) NB159_0.out (by simp)); have n1_ := Aside0.mk (KeepBut.trans (lK HK.out) hk (.inl rfl)); have n2_ := Aside0.mk (hb); have n3_ := Aside0.mk (hi); clear BK159 HK HB HI0; have BK159 := n0_; have HK := n1_; have HB := n2_; have HI0 := n3_; clear n0_ n1_ n2_ n3_; (try clear hb); (try clear hb2); (try clear hk); (try clear hi)) | ((with_reducible refine gate_dst (N := 5) rfl ?_); refine box_event ?hg (N := 5) ?hd (cs := #[.string (⟨#[]⟩ : ByteArray), .string (⟨#[]⟩ : ByteArray)]) (t := 25) ?hr ?_; (case hd => rfl); (case hg => rfl); (case hr => exact lr); intro gb167 hg w25 hbox hb; have n0_ := Aside0.mk (IsS47.below (lI47 HI0.out) hb); have n1_ := Aside0.mk (blk_below (lb BK159.out) hb); have n2_ := Aside0.mk (KeepBut.trans (lK HK.out) (KeepBut.of_below hb g none) (.inl rfl)); have n3_ := Aside0.mk (below_step (lB HB.out) hb); have n4_ := Aside0.mk (hbox); have n5_ := Aside0.mk ((by rw [hg]; exact (keep_size (w := w) (g := g) (row := none) (lK HK.out)) : w.heap.size ≤ gb167)); have n6_ := Aside0.mk ((Nat.le_trans HW0.out (by rw [hg]; exact (keep_size (w := w) (g := g) (row := none) (lK HK.out)) : w.heap.size ≤ gb167) : w0.heap.size ≤ gb167)); have n7_ := na hg (lb BK159.out); have n8_ := nz hg (lb BK159.out); have n9_ := Aside0.mk ((by rw [hg]; exact Nat.ne_of_lt (IsS47.lt (show IsS47 w0 _ g s0_0 t165 t166 from by exact lI47 HI0.out)) : g ≠ gb167)); have n10_ := Aside0.mk ((by rw [hg]; exact Nat.ne_of_gt (IsS47.lt (show IsS47 w0 _ g s0_0 t165 t166 from by exact lI47 HI0.out)) : gb167 ≠ g)); clear HI0 BK159 HK HB; have HI0 := n0_; have BK159 := n1_; have HK := n2_; have HB := n3_; have BK167 := n4_; have GW167 := n5_; have GE167 := n6_; have NB159_167 := n7_; have NB167_159 := n8_; have NB0_167 := n9_; have NB167_0 := n10_; clear n0_ n1_ n2_ n3_ n4_ n5_ n6_ n7_ n8_ n9_ n10_; clear hb hbox hg; have hnb26 := NB167_159.out; have hnc26 := NB159_167.out; have hnb27 := NB167_0.out; have hnc27 := NB0_167.out; have hcz28_0 : w25.cell? ⟨gb167, 0, none⟩ = some (.string (⟨#[]⟩ : ByteArray)) := (blk_cell BK167.out 0).trans rfl; have hcz28_1 : w25.cell? ⟨gb167, 1, none⟩ = some (.string (⟨#[]⟩ : ByteArray)) := (blk_cell BK167.out 1).trans rfl; have hfz28_0 := blk_frozen BK167.out 0; have hfz28_1 := blk_frozen BK167.out 1) | ((with_reducible refine gate_callee (f := 24) rfl ?_); refine goesL_ (some 13) rfl rfl Tryz.func24 (by kernel_rfl) rfl #[.pointer (some ⟨g, 0, none⟩), .int .i64 14] rfl lm ?_; (with_reducible refine (spec_l1Cur_pick.calls g s0_0 t165 t166 14 t168 t169 t170 w0 _ ?side1 ?side2 A5.out).mono ?_); (case side1 => exact lI47 HI0.out); (case side2 => exact lB HB.out); rintro e w29 ⟨rfl, hi, hb, hk⟩; refine ⟨_, rfl, ?_⟩; have n0_ := Aside0.mk (KeepBut.blk hk (g' := gb159) (o := .cells #[.string (⟨#[]⟩ : ByteArray), .string (⟨#[]⟩ : ByteArray)] 25 (0, 0)) (by (with_reducible repeat (first | refine blk_drewN ?_ _ | refine blk_drew ?_ | refine blk_alloc ?_ _)); refine blk_far ?_ NB159_167.out _; (with_reducible repeat (first | refine blk_drewN ?_ _ | refine blk_drew ?_ | refine blk_alloc ?_ _)); refine blk_far ?_ NB159_167.out _; exact lb BK159.out) NB159_0.out (by simp)); have n1_ := Aside0.mk (KeepBut.blk hk (g' := gb167) (o := .cells #[.string t163, .string t164] 25 (0, 0)) (by (with_reducible repeat (first | refine blk_drewN ?_ _ | refine blk_drew ?_ | refine blk_alloc ?_ _)); refine blk_put (cs := #[.string t163, .string (⟨#[]⟩ : ByteArray)]) ?_ 1 _ rfl; (with_reducible repeat (first | refine blk_drewN ?_ _ | refine blk_drew ?_ | refine blk_alloc ?_ _)); refine blk_put (cs := #[.string (⟨#[]⟩ : ByteArray), .string (⟨#[]⟩ : ByteArray)]) ?_ 0 _ rfl; exact lb BK167.out) NB167_0.out (by simp)); have n2_ := Aside0.mk (KeepBut.trans (lK HK.out) hk (.inl rfl)); have n3_ := Aside0.mk (hb); have n4_ := Aside0.mk (hi); clear BK159 BK167 HK HB HI0; have BK159 := n0_; have BK167 := n1_; have HK := n2_; have HB := n3_; have HI0 := n4_; clear n0_ n1_ n2_ n3_ n4_; (try clear hb); (try clear hb2); (try clear hk); (try clear hi); have hcz30_0 : w29.cell? ⟨gb167, 0, none⟩ = some (.string t163) := (blk_cell BK167.out 0).trans rfl; have hcz30_1 : w29.cell? ⟨gb167, 1, none⟩ = some (.string t164) := (blk_cell BK167.out 1).trans rfl; have hfz30_0 := blk_frozen BK167.out 0; have hfz30_1 := blk_frozen BK167.out 1) | ((with_reducible refine gate_callee (f := 56) rfl ?_); refine goesL_ (some 25) rfl rfl Tryz.func56 (by kernel_rfl) rfl #[.pointer (some ⟨g, 0, none⟩), .string t163, .string (⟨#[40, 46, 41]⟩ : ByteArray)] rfl lm ?_; (with_reducible refine (spec_l1Cur_spoilt.calls k g s0_0 t169 t170 t163 (⟨#[40, 46, 41]⟩ : ByteArray) t174 t175 t176 w0 _ ?side1 ?side2 A21.out).mono ?_); (case side1 => exact lI47 HI0.out); (case side2 => exact lB HB.out); rintro e w31 ⟨rfl, hi, hb, hk⟩; refine ⟨_, rfl, ?_⟩; have n0_ := Aside0.mk (KeepBut.blk hk (g' := gb159) (o := .cells #[.string (⟨#[]⟩ : ByteArray), .string (⟨#[]⟩ : ByteArray)] 25 (0, 0)) (lb BK159.out) NB159_0.out (by simp)); have n1_ := Aside0.mk (KeepBut.blk hk (g' := gb167) (o := .cells #[.string t163, .string t164] 25 (0, 0)) (lb BK167.out) NB167_0.out (by simp)); have n2_ := Aside0.mk (KeepBut.trans (lK HK.out) hk (.inl rfl)); have n3_ := Aside0.mk (hb); have n4_ := Aside0.mk (hi); clear BK159 BK167 HK HB HI0; have BK159 := n0_; have BK167 := n1_; have HK := n2_; have HB := n3_; have HI0 := n4_; clear n0_ n1_ n2_ n3_ n4_; (try clear hb); (try clear hb2); (try clear hk); (try clear hi); have hcz32_0 : w31.cell? ⟨gb167, 0, none⟩ = some (.string t163) := (blk_cell BK167.out 0).trans rfl; have hcz32_1 : w31.cell? ⟨gb167, 1, none⟩ = some (.string t164) := (blk_cell BK167.out 1).trans rfl; have hfz32_0 := blk_frozen BK167.out 0; have hfz32_1 := blk_frozen BK167.out 1; have hnb33 := NB159_0.out; have hnc33 := NB0_159.out; have hcz34_0 : w31.cell? ⟨gb159, 0, none⟩ = some (.string (⟨#[]⟩ : ByteArray)) := (blk_cell BK159.out 0).trans rfl; have hcz34_1 : w31.cell? ⟨gb159, 1, none⟩ = some (.string (⟨#[]⟩ : ByteArray)) := (blk_cell BK159.out 1).trans rfl; have hfz34_0 := blk_frozen BK159.out 0; have hfz34_1 := blk_frozen BK159.out 1))
    refine bodyPost_ret (results_cell_row rfl _ _ gb159 25 #[.string t174, .string t164] (0, 0) _ rfl (by (with_reducible repeat (first | refine blk_drewN ?_ _ | refine blk_drew ?_ | refine blk_alloc ?_ _)); refine blk_put (cs := #[.string t174, .string (⟨#[]⟩ : ByteArray)]) ?_ 1 _ rfl; (with_reducible repeat (first | refine blk_drewN ?_ _ | refine blk_drew ?_ | refine blk_alloc ?_ _)); refine blk_put (cs := #[.string (⟨#[]⟩ : ByteArray), .string (⟨#[]⟩ : ByteArray)]) ?_ 0 _ rfl; (with_reducible repeat (first | refine blk_drewN ?_ _ | refine blk_drew ?_ | refine blk_alloc ?_ _)); refine blk_far ?_ NB159_167.out _; exact lb BK159.out) Tryz.underlying25 rfl (by kernel_rfl)) rfl ?_
    exact ⟨lx, by exact lI47 HI0.out, by exact lB HB.out, by exact lK HK.out⟩
  rw [if_neg c20] at H
  have c20b0 : (t168 == 1) = false := beq_eq_false_iff_ne.mpr c20
  have c20b1 : (t168 != 1) = true := bne_iff_ne.mpr c20
  by_cases c35 : t168 = 2
  · rw [if_pos c35] at H
    have c35b0 : (t168 == 2) = true := beq_iff_eq.mpr c35
    have c35b1 : (t168 != 2) = false := bne_eq_false_iff_eq.mpr c35
    clear c35
    replace H := Option.bind_eq_some_iff.mp H
    obtain ⟨⟨t177, t178, t179⟩, A360, H⟩ := H
    replace H : ((spec_l1Cur_surePair.f k s0_0 t178 t179 (wrap64 (8 + t177))).bind fun bt180 => (some (bt180.1, bt180.2.1, bt180.2.2.1, bt180.2.2.2))) = some (r1, r2, r3, r4) := H
    have A36 := Aside0.mk A360
    clear A360
    replace H := Option.bind_eq_some_iff.mp H
    obtain ⟨⟨t180, t181, t182, t183⟩, A370, H⟩ := H
    replace H : (some (t180, t181, t182, t183)) = some (r1, r2, r3, r4) := H
    have A37 := Aside0.mk A370
    clear A370
    simp only [Option.some.injEq, Prod.mk.injEq] at H
    obtain ⟨rfl, rfl, rfl, rfl⟩ := H
    go_enter Tryz.func29, Tryz.ntmps29
    go_wp2_with (first | ((with_reducible refine gate_dst (N := 4) rfl ?_); refine box_event ?hg (N := 4) ?hd (cs := #[.string (⟨#[]⟩ : ByteArray), .string (⟨#[]⟩ : ByteArray)]) (t := 25) ?hr ?_; (case hd => rfl); (case hg => rfl); (case hr => exact lr); intro gb159 hg w38 hbox hb; have n0_ := Aside0.mk (IsS47.below (lI47 HI0.out) hb); have n1_ := Aside0.mk (KeepBut.trans (lK HK.out) (KeepBut.of_below hb g none) (.inl rfl)); have n2_ := Aside0.mk (below_step (lB HB.out) hb); have n3_ := Aside0.mk (hbox); have n4_ := Aside0.mk ((by rw [hg]; exact (keep_size (w := w) (g := g) (row := none) (lK HK.out)) : w.heap.size ≤ gb159)); have n5_ := Aside0.mk ((Nat.le_trans HW0.out (by rw [hg]; exact (keep_size (w := w) (g := g) (row := none) (lK HK.out)) : w.heap.size ≤ gb159) : w0.heap.size ≤ gb159)); have n6_ := Aside0.mk ((by rw [hg]; exact Nat.ne_of_lt (IsS47.lt (show IsS47 w0 _ g s0_0 s0_1 s0_2 from by exact lI47 HI0.out)) : g ≠ gb159)); have n7_ := Aside0.mk ((by rw [hg]; exact Nat.ne_of_gt (IsS47.lt (show IsS47 w0 _ g s0_0 s0_1 s0_2 from by exact lI47 HI0.out)) : gb159 ≠ g)); clear HI0 HK HB; have HI0 := n0_; have HK := n1_; have HB := n2_; have BK159 := n3_; have GW159 := n4_; have GE159 := n5_; have NB0_159 := n6_; have NB159_0 := n7_; clear n0_ n1_ n2_ n3_ n4_ n5_ n6_ n7_; clear hb hbox hg) | ((with_reducible refine gate_callee (f := 24) rfl ?_); refine goesL_ (some 10) rfl rfl Tryz.func24 (by kernel_rfl) rfl #[.pointer (some ⟨g, 0, none⟩), .int .i64 (wrap64 (a1 + 1))] rfl lm ?_; (with_reducible refine (spec_l1Cur_pick.calls g s0_0 s0_1 s0_2 (wrap64 (a1 + 1)) t160 t161 t162 w0 _ ?side1 ?side2 A3.out).mono ?_); (case side1 => exact lI47 HI0.out); (case side2 => exact lB HB.out); rintro e w39 ⟨rfl, hi, hb, hk⟩; refine ⟨_, rfl, ?_⟩; have n0_ := Aside0.mk (KeepBut.blk hk (g' := gb159) (o := .cells #[.string (⟨#[]⟩ : ByteArray), .string (⟨#[]⟩ : ByteArray)] 25 (0, 0)) (lb BK159.out) NB159_0.out (by simp)); have n1_ := Aside0.mk (KeepBut.trans (lK HK.out) hk (.inl rfl)); have n2_ := Aside0.mk (hb); have n3_ := Aside0.mk (hi); clear BK159 HK HB HI0; have BK159 := n0_; have HK := n1_; have HB := n2_; have HI0 := n3_; clear n0_ n1_ n2_ n3_; (try clear hb); (try clear hb2); (try clear hk); (try clear hi)) | ((with_reducible refine gate_callee (f := 23) rfl ?_); refine goesL_ (some 11) rfl rfl Tryz.func23 (by kernel_rfl) rfl #[.pointer (some ⟨g, 0, none⟩), .int .i64 t160] rfl lm ?_; (with_reducible refine (spec_l1Cur_surePair.calls k g s0_0 t161 t162 t160 t163 t164 t165 t166 w0 _ ?side1 ?side2 A4.out).mono ?_); (case side1 => exact lI47 HI0.out); (case side2 => exact lB HB.out); rintro e w40 ⟨rfl, hi, hb, hk⟩; refine ⟨_, rfl, ?_⟩; have n0_ := Aside0.mk (KeepBut.blk hk (g' := gb159) (o := .cells #[.string (⟨#[]⟩ : ByteArray), .string (⟨#[]⟩ : ByteArray)] 25 (0, 0)) (lb BK159.out) NB159_0.out (by simp)); have n1_ := Aside0.mk (KeepBut.trans (lK HK.out) hk (.inl rfl)); have n2_ := Aside0.mk (hb); have n3_ := Aside0.mk (hi); clear BK159 HK HB HI0; have BK159 := n0_; have HK := n1_; have HB := n2_; have HI0 := n3_; clear n0_ n1_ n2_ n3_; (try clear hb); (try clear hb2); (try clear hk); (try clear hi)) | ((with_reducible refine gate_dst (N := 5) rfl ?_); refine box_event ?hg (N := 5) ?hd (cs := #[.string (⟨#[]⟩ : ByteArray), .string (⟨#[]⟩ : ByteArray)]) (t := 25) ?hr ?_; (case hd => rfl); (case hg => rfl); (case hr => exact lr); intro gb167 hg w41 hbox hb; have n0_ := Aside0.mk (IsS47.below (lI47 HI0.out) hb); have n1_ := Aside0.mk (blk_below (lb BK159.out) hb); have n2_ := Aside0.mk (KeepBut.trans (lK HK.out) (KeepBut.of_below hb g none) (.inl rfl)); have n3_ := Aside0.mk (below_step (lB HB.out) hb); have n4_ := Aside0.mk (hbox); have n5_ := Aside0.mk ((by rw [hg]; exact (keep_size (w := w) (g := g) (row := none) (lK HK.out)) : w.heap.size ≤ gb167)); have n6_ := Aside0.mk ((Nat.le_trans HW0.out (by rw [hg]; exact (keep_size (w := w) (g := g) (row := none) (lK HK.out)) : w.heap.size ≤ gb167) : w0.heap.size ≤ gb167)); have n7_ := na hg (lb BK159.out); have n8_ := nz hg (lb BK159.out); have n9_ := Aside0.mk ((by rw [hg]; exact Nat.ne_of_lt (IsS47.lt (show IsS47 w0 _ g s0_0 t165 t166 from by exact lI47 HI0.out)) : g ≠ gb167)); have n10_ := Aside0.mk ((by rw [hg]; exact Nat.ne_of_gt (IsS47.lt (show IsS47 w0 _ g s0_0 t165 t166 from by exact lI47 HI0.out)) : gb167 ≠ g)); clear HI0 BK159 HK HB; have HI0 := n0_; have BK159 := n1_; have HK := n2_; have HB := n3_; have BK167 := n4_; have GW167 := n5_; have GE167 := n6_; have NB159_167 := n7_; have NB167_159 := n8_; have NB0_167 := n9_; have NB167_0 := n10_; clear n0_ n1_ n2_ n3_ n4_ n5_ n6_ n7_ n8_ n9_ n10_; clear hb hbox hg; have hnb42 := NB167_159.out; have hnc42 := NB159_167.out; have hnb43 := NB167_0.out; have hnc43 := NB0_167.out; have hcz44_0 : w41.cell? ⟨gb167, 0, none⟩ = some (.string (⟨#[]⟩ : ByteArray)) := (blk_cell BK167.out 0).trans rfl; have hcz44_1 : w41.cell? ⟨gb167, 1, none⟩ = some (.string (⟨#[]⟩ : ByteArray)) := (blk_cell BK167.out 1).trans rfl; have hfz44_0 := blk_frozen BK167.out 0; have hfz44_1 := blk_frozen BK167.out 1) | ((with_reducible refine gate_callee (f := 24) rfl ?_); refine goesL_ (some 13) rfl rfl Tryz.func24 (by kernel_rfl) rfl #[.pointer (some ⟨g, 0, none⟩), .int .i64 14] rfl lm ?_; (with_reducible refine (spec_l1Cur_pick.calls g s0_0 t165 t166 14 t168 t169 t170 w0 _ ?side1 ?side2 A5.out).mono ?_); (case side1 => exact lI47 HI0.out); (case side2 => exact lB HB.out); rintro e w45 ⟨rfl, hi, hb, hk⟩; refine ⟨_, rfl, ?_⟩; have n0_ := Aside0.mk (KeepBut.blk hk (g' := gb159) (o := .cells #[.string (⟨#[]⟩ : ByteArray), .string (⟨#[]⟩ : ByteArray)] 25 (0, 0)) (by (with_reducible repeat (first | refine blk_drewN ?_ _ | refine blk_drew ?_ | refine blk_alloc ?_ _)); refine blk_far ?_ NB159_167.out _; (with_reducible repeat (first | refine blk_drewN ?_ _ | refine blk_drew ?_ | refine blk_alloc ?_ _)); refine blk_far ?_ NB159_167.out _; exact lb BK159.out) NB159_0.out (by simp)); have n1_ := Aside0.mk (KeepBut.blk hk (g' := gb167) (o := .cells #[.string t163, .string t164] 25 (0, 0)) (by (with_reducible repeat (first | refine blk_drewN ?_ _ | refine blk_drew ?_ | refine blk_alloc ?_ _)); refine blk_put (cs := #[.string t163, .string (⟨#[]⟩ : ByteArray)]) ?_ 1 _ rfl; (with_reducible repeat (first | refine blk_drewN ?_ _ | refine blk_drew ?_ | refine blk_alloc ?_ _)); refine blk_put (cs := #[.string (⟨#[]⟩ : ByteArray), .string (⟨#[]⟩ : ByteArray)]) ?_ 0 _ rfl; exact lb BK167.out) NB167_0.out (by simp)); have n2_ := Aside0.mk (KeepBut.trans (lK HK.out) hk (.inl rfl)); have n3_ := Aside0.mk (hb); have n4_ := Aside0.mk (hi); clear BK159 BK167 HK HB HI0; have BK159 := n0_; have BK167 := n1_; have HK := n2_; have HB := n3_; have HI0 := n4_; clear n0_ n1_ n2_ n3_ n4_; (try clear hb); (try clear hb2); (try clear hk); (try clear hi)) | ((with_reducible refine gate_callee (f := 24) rfl ?_); refine goesL_ (some 31) rfl rfl Tryz.func24 (by kernel_rfl) rfl #[.pointer (some ⟨g, 0, none⟩), .int .i64 2] rfl lm ?_; (with_reducible refine (spec_l1Cur_pick.calls g s0_0 t169 t170 2 t177 t178 t179 w0 _ ?side1 ?side2 A36.out).mono ?_); (case side1 => exact lI47 HI0.out); (case side2 => exact lB HB.out); rintro e w46 ⟨rfl, hi, hb, hk⟩; refine ⟨_, rfl, ?_⟩; have n0_ := Aside0.mk (KeepBut.blk hk (g' := gb159) (o := .cells #[.string (⟨#[]⟩ : ByteArray), .string (⟨#[]⟩ : ByteArray)] 25 (0, 0)) (lb BK159.out) NB159_0.out (by simp)); have n1_ := Aside0.mk (KeepBut.blk hk (g' := gb167) (o := .cells #[.string t163, .string t164] 25 (0, 0)) (lb BK167.out) NB167_0.out (by simp)); have n2_ := Aside0.mk (KeepBut.trans (lK HK.out) hk (.inl rfl)); have n3_ := Aside0.mk (hb); have n4_ := Aside0.mk (hi); clear BK159 BK167 HK HB HI0; have BK159 := n0_; have BK167 := n1_; have HK := n2_; have HB := n3_; have HI0 := n4_; clear n0_ n1_ n2_ n3_ n4_; (try clear hb); (try clear hb2); (try clear hk); (try clear hi)) | ((with_reducible refine gate_callee (f := 23) rfl ?_); refine goesL_ (some 33) rfl rfl Tryz.func23 (by kernel_rfl) rfl #[.pointer (some ⟨g, 0, none⟩), .int .i64 (wrap64 (8 + t177))] rfl lm ?_; (with_reducible refine (spec_l1Cur_surePair.calls k g s0_0 t178 t179 (wrap64 (8 + t177)) t180 t181 t182 t183 w0 _ ?side1 ?side2 A37.out).mono ?_); (case side1 => exact lI47 HI0.out); (case side2 => exact lB HB.out); rintro e w47 ⟨rfl, hi, hb, hk⟩; refine ⟨_, rfl, ?_⟩; have n0_ := Aside0.mk (KeepBut.blk hk (g' := gb159) (o := .cells #[.string (⟨#[]⟩ : ByteArray), .string (⟨#[]⟩ : ByteArray)] 25 (0, 0)) (lb BK159.out) NB159_0.out (by simp)); have n1_ := Aside0.mk (KeepBut.blk hk (g' := gb167) (o := .cells #[.string t163, .string t164] 25 (0, 0)) (lb BK167.out) NB167_0.out (by simp)); have n2_ := Aside0.mk (KeepBut.trans (lK HK.out) hk (.inl rfl)); have n3_ := Aside0.mk (hb); have n4_ := Aside0.mk (hi); clear BK159 BK167 HK HB HI0; have BK159 := n0_; have BK167 := n1_; have HK := n2_; have HB := n3_; have HI0 := n4_; clear n0_ n1_ n2_ n3_ n4_; (try clear hb); (try clear hb2); (try clear hk); (try clear hi); have hcz48_0 : w47.cell? ⟨gb167, 0, none⟩ = some (.string t163) := (blk_cell BK167.out 0).trans rfl; have hcz48_1 : w47.cell? ⟨gb167, 1, none⟩ = some (.string t164) := (blk_cell BK167.out 1).trans rfl; have hfz48_0 := blk_frozen BK167.out 0; have hfz48_1 := blk_frozen BK167.out 1; have hnb49 := NB159_0.out; have hnc49 := NB0_159.out; have hcz50_0 : w47.cell? ⟨gb159, 0, none⟩ = some (.string (⟨#[]⟩ : ByteArray)) := (blk_cell BK159.out 0).trans rfl; have hcz50_1 : w47.cell? ⟨gb159, 1, none⟩ = some (.string (⟨#[]⟩ : ByteArray)) := (blk_cell BK159.out 1).trans rfl; have hfz50_0 := blk_frozen BK159.out 0; have hfz50_1 := blk_frozen BK159.out 1))
    refine bodyPost_ret (results_cell_row rfl _ _ gb159 25 #[.string t180, .string t181] (0, 0) _ rfl (by (with_reducible repeat (first | refine blk_drewN ?_ _ | refine blk_drew ?_ | refine blk_alloc ?_ _)); refine blk_put (cs := #[.string t180, .string (⟨#[]⟩ : ByteArray)]) ?_ 1 _ rfl; (with_reducible repeat (first | refine blk_drewN ?_ _ | refine blk_drew ?_ | refine blk_alloc ?_ _)); refine blk_put (cs := #[.string (⟨#[]⟩ : ByteArray), .string (⟨#[]⟩ : ByteArray)]) ?_ 0 _ rfl; (with_reducible repeat (first | refine blk_drewN ?_ _ | refine blk_drew ?_ | refine blk_alloc ?_ _)); refine blk_far ?_ NB159_167.out _; (with_reducible repeat (first | refine blk_drewN ?_ _ | refine blk_drew ?_ | refine blk_alloc ?_ _)); refine blk_far ?_ NB159_167.out _; exact lb BK159.out) Tryz.underlying25 rfl (by kernel_rfl)) rfl ?_
    exact ⟨lx, by exact lI47 HI0.out, by exact lB HB.out, by exact lK HK.out⟩
  rw [if_neg c35] at H
  have c35b0 : (t168 == 2) = false := beq_eq_false_iff_ne.mpr c35
  have c35b1 : (t168 != 2) = true := bne_iff_ne.mpr c35
  by_cases c51 : t168 = 3
  rotate_left
  · rw [if_neg c51] at H
    have c51b0 : (t168 == 3) = false := beq_eq_false_iff_ne.mpr c51
    have c51b1 : (t168 != 3) = true := bne_iff_ne.mpr c51
    simp only [Option.some.injEq, Prod.mk.injEq] at H
    obtain ⟨rfl, rfl, rfl, rfl⟩ := H
    go_enter Tryz.func29, Tryz.ntmps29
    go_wp2_with (first | ((with_reducible refine gate_dst (N := 4) rfl ?_); refine box_event ?hg (N := 4) ?hd (cs := #[.string (⟨#[]⟩ : ByteArray), .string (⟨#[]⟩ : ByteArray)]) (t := 25) ?hr ?_; (case hd => rfl); (case hg => rfl); (case hr => exact lr); intro gb159 hg w67 hbox hb; have n0_ := Aside0.mk (IsS47.below (lI47 HI0.out) hb); have n1_ := Aside0.mk (KeepBut.trans (lK HK.out) (KeepBut.of_below hb g none) (.inl rfl)); have n2_ := Aside0.mk (below_step (lB HB.out) hb); have n3_ := Aside0.mk (hbox); have n4_ := Aside0.mk ((by rw [hg]; exact (keep_size (w := w) (g := g) (row := none) (lK HK.out)) : w.heap.size ≤ gb159)); have n5_ := Aside0.mk ((Nat.le_trans HW0.out (by rw [hg]; exact (keep_size (w := w) (g := g) (row := none) (lK HK.out)) : w.heap.size ≤ gb159) : w0.heap.size ≤ gb159)); have n6_ := Aside0.mk ((by rw [hg]; exact Nat.ne_of_lt (IsS47.lt (show IsS47 w0 _ g s0_0 s0_1 s0_2 from by exact lI47 HI0.out)) : g ≠ gb159)); have n7_ := Aside0.mk ((by rw [hg]; exact Nat.ne_of_gt (IsS47.lt (show IsS47 w0 _ g s0_0 s0_1 s0_2 from by exact lI47 HI0.out)) : gb159 ≠ g)); clear HI0 HK HB; have HI0 := n0_; have HK := n1_; have HB := n2_; have BK159 := n3_; have GW159 := n4_; have GE159 := n5_; have NB0_159 := n6_; have NB159_0 := n7_; clear n0_ n1_ n2_ n3_ n4_ n5_ n6_ n7_; clear hb hbox hg) | ((with_reducible refine gate_callee (f := 24) rfl ?_); refine goesL_ (some 10) rfl rfl Tryz.func24 (by kernel_rfl) rfl #[.pointer (some ⟨g, 0, none⟩), .int .i64 (wrap64 (a1 + 1))] rfl lm ?_; (with_reducible refine (spec_l1Cur_pick.calls g s0_0 s0_1 s0_2 (wrap64 (a1 + 1)) t160 t161 t162 w0 _ ?side1 ?side2 A3.out).mono ?_); (case side1 => exact lI47 HI0.out); (case side2 => exact lB HB.out); rintro e w68 ⟨rfl, hi, hb, hk⟩; refine ⟨_, rfl, ?_⟩; have n0_ := Aside0.mk (KeepBut.blk hk (g' := gb159) (o := .cells #[.string (⟨#[]⟩ : ByteArray), .string (⟨#[]⟩ : ByteArray)] 25 (0, 0)) (lb BK159.out) NB159_0.out (by simp)); have n1_ := Aside0.mk (KeepBut.trans (lK HK.out) hk (.inl rfl)); have n2_ := Aside0.mk (hb); have n3_ := Aside0.mk (hi); clear BK159 HK HB HI0; have BK159 := n0_; have HK := n1_; have HB := n2_; have HI0 := n3_; clear n0_ n1_ n2_ n3_; (try clear hb); (try clear hb2); (try clear hk); (try clear hi)) | ((with_reducible refine gate_callee (f := 23) rfl ?_); refine goesL_ (some 11) rfl rfl Tryz.func23 (by kernel_rfl) rfl #[.pointer (some ⟨g, 0, none⟩), .int .i64 t160] rfl lm ?_; (with_reducible refine (spec_l1Cur_surePair.calls k g s0_0 t161 t162 t160 t163 t164 t165 t166 w0 _ ?side1 ?side2 A4.out).mono ?_); (case side1 => exact lI47 HI0.out); (case side2 => exact lB HB.out); rintro e w69 ⟨rfl, hi, hb, hk⟩; refine ⟨_, rfl, ?_⟩; have n0_ := Aside0.mk (KeepBut.blk hk (g' := gb159) (o := .cells #[.string (⟨#[]⟩ : ByteArray), .string (⟨#[]⟩ : ByteArray)] 25 (0, 0)) (lb BK159.out) NB159_0.out (by simp)); have n1_ := Aside0.mk (KeepBut.trans (lK HK.out) hk (.inl rfl)); have n2_ := Aside0.mk (hb); have n3_ := Aside0.mk (hi); clear BK159 HK HB HI0; have BK159 := n0_; have HK := n1_; have HB := n2_; have HI0 := n3_; clear n0_ n1_ n2_ n3_; (try clear hb); (try clear hb2); (try clear hk); (try clear hi)) | ((with_reducible refine gate_dst (N := 5) rfl ?_); refine box_event ?hg (N := 5) ?hd (cs := #[.string (⟨#[]⟩ : ByteArray), .string (⟨#[]⟩ : ByteArray)]) (t := 25) ?hr ?_; (case hd => rfl); (case hg => rfl); (case hr => exact lr); intro gb167 hg w70 hbox hb; have n0_ := Aside0.mk (IsS47.below (lI47 HI0.out) hb); have n1_ := Aside0.mk (blk_below (lb BK159.out) hb); have n2_ := Aside0.mk (KeepBut.trans (lK HK.out) (KeepBut.of_below hb g none) (.inl rfl)); have n3_ := Aside0.mk (below_step (lB HB.out) hb); have n4_ := Aside0.mk (hbox); have n5_ := Aside0.mk ((by rw [hg]; exact (keep_size (w := w) (g := g) (row := none) (lK HK.out)) : w.heap.size ≤ gb167)); have n6_ := Aside0.mk ((Nat.le_trans HW0.out (by rw [hg]; exact (keep_size (w := w) (g := g) (row := none) (lK HK.out)) : w.heap.size ≤ gb167) : w0.heap.size ≤ gb167)); have n7_ := na hg (lb BK159.out); have n8_ := nz hg (lb BK159.out); have n9_ := Aside0.mk ((by rw [hg]; exact Nat.ne_of_lt (IsS47.lt (show IsS47 w0 _ g s0_0 t165 t166 from by exact lI47 HI0.out)) : g ≠ gb167)); have n10_ := Aside0.mk ((by rw [hg]; exact Nat.ne_of_gt (IsS47.lt (show IsS47 w0 _ g s0_0 t165 t166 from by exact lI47 HI0.out)) : gb167 ≠ g)); clear HI0 BK159 HK HB; have HI0 := n0_; have BK159 := n1_; have HK := n2_; have HB := n3_; have BK167 := n4_; have GW167 := n5_; have GE167 := n6_; have NB159_167 := n7_; have NB167_159 := n8_; have NB0_167 := n9_; have NB167_0 := n10_; clear n0_ n1_ n2_ n3_ n4_ n5_ n6_ n7_ n8_ n9_ n10_; clear hb hbox hg; have hnb71 := NB167_159.out; have hnc71 := NB159_167.out; have hnb72 := NB167_0.out; have hnc72 := NB0_167.out; have hcz73_0 : w70.cell? ⟨gb167, 0, none⟩ = some (.string (⟨#[]⟩ : ByteArray)) := (blk_cell BK167.out 0).trans rfl; have hcz73_1 : w70.cell? ⟨gb167, 1, none⟩ = some (.string (⟨#[]⟩ : ByteArray)) := (blk_cell BK167.out 1).trans rfl; have hfz73_0 := blk_frozen BK167.out 0; have hfz73_1 := blk_frozen BK167.out 1) | ((with_reducible refine gate_callee (f := 24) rfl ?_); refine goesL_ (some 13) rfl rfl Tryz.func24 (by kernel_rfl) rfl #[.pointer (some ⟨g, 0, none⟩), .int .i64 14] rfl lm ?_; (with_reducible refine (spec_l1Cur_pick.calls g s0_0 t165 t166 14 t168 t169 t170 w0 _ ?side1 ?side2 A5.out).mono ?_); (case side1 => exact lI47 HI0.out); (case side2 => exact lB HB.out); rintro e w74 ⟨rfl, hi, hb, hk⟩; refine ⟨_, rfl, ?_⟩; have n0_ := Aside0.mk (KeepBut.blk hk (g' := gb159) (o := .cells #[.string (⟨#[]⟩ : ByteArray), .string (⟨#[]⟩ : ByteArray)] 25 (0, 0)) (by (with_reducible repeat (first | refine blk_drewN ?_ _ | refine blk_drew ?_ | refine blk_alloc ?_ _)); refine blk_far ?_ NB159_167.out _; (with_reducible repeat (first | refine blk_drewN ?_ _ | refine blk_drew ?_ | refine blk_alloc ?_ _)); refine blk_far ?_ NB159_167.out _; exact lb BK159.out) NB159_0.out (by simp)); have n1_ := Aside0.mk (KeepBut.blk hk (g' := gb167) (o := .cells #[.string t163, .string t164] 25 (0, 0)) (by (with_reducible repeat (first | refine blk_drewN ?_ _ | refine blk_drew ?_ | refine blk_alloc ?_ _)); refine blk_put (cs := #[.string t163, .string (⟨#[]⟩ : ByteArray)]) ?_ 1 _ rfl; (with_reducible repeat (first | refine blk_drewN ?_ _ | refine blk_drew ?_ | refine blk_alloc ?_ _)); refine blk_put (cs := #[.string (⟨#[]⟩ : ByteArray), .string (⟨#[]⟩ : ByteArray)]) ?_ 0 _ rfl; exact lb BK167.out) NB167_0.out (by simp)); have n2_ := Aside0.mk (KeepBut.trans (lK HK.out) hk (.inl rfl)); have n3_ := Aside0.mk (hb); have n4_ := Aside0.mk (hi); clear BK159 BK167 HK HB HI0; have BK159 := n0_; have BK167 := n1_; have HK := n2_; have HB := n3_; have HI0 := n4_; clear n0_ n1_ n2_ n3_ n4_; (try clear hb); (try clear hb2); (try clear hk); (try clear hi); have hcz75_0 : w74.cell? ⟨gb167, 0, none⟩ = some (.string t163) := (blk_cell BK167.out 0).trans rfl; have hcz75_1 : w74.cell? ⟨gb167, 1, none⟩ = some (.string t164) := (blk_cell BK167.out 1).trans rfl; have hfz75_0 := blk_frozen BK167.out 0; have hfz75_1 := blk_frozen BK167.out 1; have hnb76 := NB159_0.out; have hnc76 := NB0_159.out; have hcz77_0 : w74.cell? ⟨gb159, 0, none⟩ = some (.string (⟨#[]⟩ : ByteArray)) := (blk_cell BK159.out 0).trans rfl; have hcz77_1 : w74.cell? ⟨gb159, 1, none⟩ = some (.string (⟨#[]⟩ : ByteArray)) := (blk_cell BK159.out 1).trans rfl; have hfz77_0 := blk_frozen BK159.out 0; have hfz77_1 := blk_frozen BK159.out 1))
    refine bodyPost_ret (results_cell_row rfl _ _ gb159 25 #[.string t163, .string t164] (0, 0) _ rfl (by (with_reducible repeat (first | refine blk_drewN ?_ _ | refine blk_drew ?_ | refine blk_alloc ?_ _)); refine blk_put (cs := #[.string t163, .string (⟨#[]⟩ : ByteArray)]) ?_ 1 _ rfl; (with_reducible repeat (first | refine blk_drewN ?_ _ | refine blk_drew ?_ | refine blk_alloc ?_ _)); refine blk_put (cs := #[.string (⟨#[]⟩ : ByteArray), .string (⟨#[]⟩ : ByteArray)]) ?_ 0 _ rfl; exact lb BK159.out) Tryz.underlying25 rfl (by kernel_rfl)) rfl ?_
    exact ⟨lx, by exact lI47 HI0.out, by exact lB HB.out, by exact lK HK.out⟩

  rw [if_pos c51] at H
  have c51b0 : (t168 == 3) = true := beq_iff_eq.mpr c51
  have c51b1 : (t168 != 3) = false := bne_eq_false_iff_eq.mpr c51
  clear c51
  replace H := Option.bind_eq_some_iff.mp H
  obtain ⟨⟨t184, t185, t186⟩, A520, H⟩ := H
  replace H : ((spec_prGenerator.f t184).bind fun bt187 => (some (bt187.1, bt187.2, t185, t186))) = some (r1, r2, r3, r4) := H
  have A52 := Aside0.mk A520
  clear A520
  replace H := Option.bind_eq_some_iff.mp H
  obtain ⟨⟨t187, t188⟩, A530, H⟩ := H
  replace H : (some (t187, t188, t185, t186)) = some (r1, r2, r3, r4) := H
  have A53 := Aside0.mk A530
  clear A530
  simp only [Option.some.injEq, Prod.mk.injEq] at H
  obtain ⟨rfl, rfl, rfl, rfl⟩ := H
  go_enter Tryz.func29, Tryz.ntmps29
  go_wp2_with (first | ((with_reducible refine gate_dst (N := 4) rfl ?_); refine box_event ?hg (N := 4) ?hd (cs := #[.string (⟨#[]⟩ : ByteArray), .string (⟨#[]⟩ : ByteArray)]) (t := 25) ?hr ?_; (case hd => rfl); (case hg => rfl); (case hr => exact lr); intro gb159 hg w54 hbox hb; have n0_ := Aside0.mk (IsS47.below (lI47 HI0.out) hb); have n1_ := Aside0.mk (KeepBut.trans (lK HK.out) (KeepBut.of_below hb g none) (.inl rfl)); have n2_ := Aside0.mk (below_step (lB HB.out) hb); have n3_ := Aside0.mk (hbox); have n4_ := Aside0.mk ((by rw [hg]; exact (keep_size (w := w) (g := g) (row := none) (lK HK.out)) : w.heap.size ≤ gb159)); have n5_ := Aside0.mk ((Nat.le_trans HW0.out (by rw [hg]; exact (keep_size (w := w) (g := g) (row := none) (lK HK.out)) : w.heap.size ≤ gb159) : w0.heap.size ≤ gb159)); have n6_ := Aside0.mk ((by rw [hg]; exact Nat.ne_of_lt (IsS47.lt (show IsS47 w0 _ g s0_0 s0_1 s0_2 from by exact lI47 HI0.out)) : g ≠ gb159)); have n7_ := Aside0.mk ((by rw [hg]; exact Nat.ne_of_gt (IsS47.lt (show IsS47 w0 _ g s0_0 s0_1 s0_2 from by exact lI47 HI0.out)) : gb159 ≠ g)); clear HI0 HK HB; have HI0 := n0_; have HK := n1_; have HB := n2_; have BK159 := n3_; have GW159 := n4_; have GE159 := n5_; have NB0_159 := n6_; have NB159_0 := n7_; clear n0_ n1_ n2_ n3_ n4_ n5_ n6_ n7_; clear hb hbox hg) | ((with_reducible refine gate_callee (f := 24) rfl ?_); refine goesL_ (some 10) rfl rfl Tryz.func24 (by kernel_rfl) rfl #[.pointer (some ⟨g, 0, none⟩), .int .i64 (wrap64 (a1 + 1))] rfl lm ?_; (with_reducible refine (spec_l1Cur_pick.calls g s0_0 s0_1 s0_2 (wrap64 (a1 + 1)) t160 t161 t162 w0 _ ?side1 ?side2 A3.out).mono ?_); (case side1 => exact lI47 HI0.out); (case side2 => exact lB HB.out); rintro e w55 ⟨rfl, hi, hb, hk⟩; refine ⟨_, rfl, ?_⟩; have n0_ := Aside0.mk (KeepBut.blk hk (g' := gb159) (o := .cells #[.string (⟨#[]⟩ : ByteArray), .string (⟨#[]⟩ : ByteArray)] 25 (0, 0)) (lb BK159.out) NB159_0.out (by simp)); have n1_ := Aside0.mk (KeepBut.trans (lK HK.out) hk (.inl rfl)); have n2_ := Aside0.mk (hb); have n3_ := Aside0.mk (hi); clear BK159 HK HB HI0; have BK159 := n0_; have HK := n1_; have HB := n2_; have HI0 := n3_; clear n0_ n1_ n2_ n3_; (try clear hb); (try clear hb2); (try clear hk); (try clear hi)) | ((with_reducible refine gate_callee (f := 23) rfl ?_); refine goesL_ (some 11) rfl rfl Tryz.func23 (by kernel_rfl) rfl #[.pointer (some ⟨g, 0, none⟩), .int .i64 t160] rfl lm ?_; (with_reducible refine (spec_l1Cur_surePair.calls k g s0_0 t161 t162 t160 t163 t164 t165 t166 w0 _ ?side1 ?side2 A4.out).mono ?_); (case side1 => exact lI47 HI0.out); (case side2 => exact lB HB.out); rintro e w56 ⟨rfl, hi, hb, hk⟩; refine ⟨_, rfl, ?_⟩; have n0_ := Aside0.mk (KeepBut.blk hk (g' := gb159) (o := .cells #[.string (⟨#[]⟩ : ByteArray), .string (⟨#[]⟩ : ByteArray)] 25 (0, 0)) (lb BK159.out) NB159_0.out (by simp)); have n1_ := Aside0.mk (KeepBut.trans (lK HK.out) hk (.inl rfl)); have n2_ := Aside0.mk (hb); have n3_ := Aside0.mk (hi); clear BK159 HK HB HI0; have BK159 := n0_; have HK := n1_; have HB := n2_; have HI0 := n3_; clear n0_ n1_ n2_ n3_; (try clear hb); (try clear hb2); (try clear hk); (try clear hi)) | ((with_reducible refine gate_dst (N := 5) rfl ?_); refine box_event ?hg (N := 5) ?hd (cs := #[.string (⟨#[]⟩ : ByteArray), .string (⟨#[]⟩ : ByteArray)]) (t := 25) ?hr ?_; (case hd => rfl); (case hg => rfl); (case hr => exact lr); intro gb167 hg w57 hbox hb; have n0_ := Aside0.mk (IsS47.below (lI47 HI0.out) hb); have n1_ := Aside0.mk (blk_below (lb BK159.out) hb); have n2_ := Aside0.mk (KeepBut.trans (lK HK.out) (KeepBut.of_below hb g none) (.inl rfl)); have n3_ := Aside0.mk (below_step (lB HB.out) hb); have n4_ := Aside0.mk (hbox); have n5_ := Aside0.mk ((by rw [hg]; exact (keep_size (w := w) (g := g) (row := none) (lK HK.out)) : w.heap.size ≤ gb167)); have n6_ := Aside0.mk ((Nat.le_trans HW0.out (by rw [hg]; exact (keep_size (w := w) (g := g) (row := none) (lK HK.out)) : w.heap.size ≤ gb167) : w0.heap.size ≤ gb167)); have n7_ := na hg (lb BK159.out); have n8_ := nz hg (lb BK159.out); have n9_ := Aside0.mk ((by rw [hg]; exact Nat.ne_of_lt (IsS47.lt (show IsS47 w0 _ g s0_0 t165 t166 from by exact lI47 HI0.out)) : g ≠ gb167)); have n10_ := Aside0.mk ((by rw [hg]; exact Nat.ne_of_gt (IsS47.lt (show IsS47 w0 _ g s0_0 t165 t166 from by exact lI47 HI0.out)) : gb167 ≠ g)); clear HI0 BK159 HK HB; have HI0 := n0_; have BK159 := n1_; have HK := n2_; have HB := n3_; have BK167 := n4_; have GW167 := n5_; have GE167 := n6_; have NB159_167 := n7_; have NB167_159 := n8_; have NB0_167 := n9_; have NB167_0 := n10_; clear n0_ n1_ n2_ n3_ n4_ n5_ n6_ n7_ n8_ n9_ n10_; clear hb hbox hg; have hnb58 := NB167_159.out; have hnc58 := NB159_167.out; have hnb59 := NB167_0.out; have hnc59 := NB0_167.out; have hcz60_0 : w57.cell? ⟨gb167, 0, none⟩ = some (.string (⟨#[]⟩ : ByteArray)) := (blk_cell BK167.out 0).trans rfl; have hcz60_1 : w57.cell? ⟨gb167, 1, none⟩ = some (.string (⟨#[]⟩ : ByteArray)) := (blk_cell BK167.out 1).trans rfl; have hfz60_0 := blk_frozen BK167.out 0; have hfz60_1 := blk_frozen BK167.out 1) | ((with_reducible refine gate_callee (f := 24) rfl ?_); refine goesL_ (some 13) rfl rfl Tryz.func24 (by kernel_rfl) rfl #[.pointer (some ⟨g, 0, none⟩), .int .i64 14] rfl lm ?_; (with_reducible refine (spec_l1Cur_pick.calls g s0_0 t165 t166 14 t168 t169 t170 w0 _ ?side1 ?side2 A5.out).mono ?_); (case side1 => exact lI47 HI0.out); (case side2 => exact lB HB.out); rintro e w61 ⟨rfl, hi, hb, hk⟩; refine ⟨_, rfl, ?_⟩; have n0_ := Aside0.mk (KeepBut.blk hk (g' := gb159) (o := .cells #[.string (⟨#[]⟩ : ByteArray), .string (⟨#[]⟩ : ByteArray)] 25 (0, 0)) (by (with_reducible repeat (first | refine blk_drewN ?_ _ | refine blk_drew ?_ | refine blk_alloc ?_ _)); refine blk_far ?_ NB159_167.out _; (with_reducible repeat (first | refine blk_drewN ?_ _ | refine blk_drew ?_ | refine blk_alloc ?_ _)); refine blk_far ?_ NB159_167.out _; exact lb BK159.out) NB159_0.out (by simp)); have n1_ := Aside0.mk (KeepBut.blk hk (g' := gb167) (o := .cells #[.string t163, .string t164] 25 (0, 0)) (by (with_reducible repeat (first | refine blk_drewN ?_ _ | refine blk_drew ?_ | refine blk_alloc ?_ _)); refine blk_put (cs := #[.string t163, .string (⟨#[]⟩ : ByteArray)]) ?_ 1 _ rfl; (with_reducible repeat (first | refine blk_drewN ?_ _ | refine blk_drew ?_ | refine blk_alloc ?_ _)); refine blk_put (cs := #[.string (⟨#[]⟩ : ByteArray), .string (⟨#[]⟩ : ByteArray)]) ?_ 0 _ rfl; exact lb BK167.out) NB167_0.out (by simp)); have n2_ := Aside0.mk (KeepBut.trans (lK HK.out) hk (.inl rfl)); have n3_ := Aside0.mk (hb); have n4_ := Aside0.mk (hi); clear BK159 BK167 HK HB HI0; have BK159 := n0_; have BK167 := n1_; have HK := n2_; have HB := n3_; have HI0 := n4_; clear n0_ n1_ n2_ n3_ n4_; (try clear hb); (try clear hb2); (try clear hk); (try clear hi)) | ((with_reducible refine gate_callee (f := 24) rfl ?_); refine goesL_ (some 37) rfl rfl Tryz.func24 (by kernel_rfl) rfl #[.pointer (some ⟨g, 0, none⟩), .int .i64 4] rfl lm ?_; (with_reducible refine (spec_l1Cur_pick.calls g s0_0 t169 t170 4 t184 t185 t186 w0 _ ?side1 ?side2 A52.out).mono ?_); (case side1 => exact lI47 HI0.out); (case side2 => exact lB HB.out); rintro e w62 ⟨rfl, hi, hb, hk⟩; refine ⟨_, rfl, ?_⟩; have n0_ := Aside0.mk (KeepBut.blk hk (g' := gb159) (o := .cells #[.string (⟨#[]⟩ : ByteArray), .string (⟨#[]⟩ : ByteArray)] 25 (0, 0)) (lb BK159.out) NB159_0.out (by simp)); have n1_ := Aside0.mk (KeepBut.blk hk (g' := gb167) (o := .cells #[.string t163, .string t164] 25 (0, 0)) (lb BK167.out) NB167_0.out (by simp)); have n2_ := Aside0.mk (KeepBut.trans (lK HK.out) hk (.inl rfl)); have n3_ := Aside0.mk (hb); have n4_ := Aside0.mk (hi); clear BK159 BK167 HK HB HI0; have BK159 := n0_; have BK167 := n1_; have HK := n2_; have HB := n3_; have HI0 := n4_; clear n0_ n1_ n2_ n3_ n4_; (try clear hb); (try clear hb2); (try clear hk); (try clear hi)) | ((with_reducible refine gate_callee (f := 57) rfl ?_); refine goesL_ (some 38) rfl rfl Tryz.func57 (by kernel_rfl) rfl #[.int .i64 t184] rfl lm ?_; (with_reducible refine (spec_prGenerator.calls t184 t187 t188 _ A53.out).mono ?_); rintro e w63 ⟨rfl, hb⟩; refine ⟨_, rfl, ?_⟩; have n0_ := Aside0.mk (IsS47.below (lI47 HI0.out) hb); have n1_ := Aside0.mk (blk_below (lb BK159.out) hb); have n2_ := Aside0.mk (blk_below (lb BK167.out) hb); have n3_ := Aside0.mk (KeepBut.trans (lK HK.out) (KeepBut.of_below hb g none) (.inl rfl)); have n4_ := Aside0.mk (below_step (lB HB.out) hb); clear HI0 BK159 BK167 HK HB; have HI0 := n0_; have BK159 := n1_; have BK167 := n2_; have HK := n3_; have HB := n4_; clear n0_ n1_ n2_ n3_ n4_; (try clear hb); (try clear hb2); (try clear hk); (try clear hi); have hcz64_0 : w63.cell? ⟨gb167, 0, none⟩ = some (.string t163) := (blk_cell BK167.out 0).trans rfl; have hcz64_1 : w63.cell? ⟨gb167, 1, none⟩ = some (.string t164) := (blk_cell BK167.out 1).trans rfl; have hfz64_0 := blk_frozen BK167.out 0; have hfz64_1 := blk_frozen BK167.out 1; have hnb65 := NB159_0.out; have hnc65 := NB0_159.out; have hcz66_0 : w63.cell? ⟨gb159, 0, none⟩ = some (.string (⟨#[]⟩ : ByteArray)) := (blk_cell BK159.out 0).trans rfl; have hcz66_1 : w63.cell? ⟨gb159, 1, none⟩ = some (.string (⟨#[]⟩ : ByteArray)) := (blk_cell BK159.out 1).trans rfl; have hfz66_0 := blk_frozen BK159.out 0; have hfz66_1 := blk_frozen BK159.out 1))
  refine bodyPost_ret (results_cell_row rfl _ _ gb159 25 #[.string t187, .string t188] (0, 0) _ rfl (by (with_reducible repeat (first | refine blk_drewN ?_ _ | refine blk_drew ?_ | refine blk_alloc ?_ _)); refine blk_put (cs := #[.string t187, .string (⟨#[]⟩ : ByteArray)]) ?_ 1 _ rfl; (with_reducible repeat (first | refine blk_drewN ?_ _ | refine blk_drew ?_ | refine blk_alloc ?_ _)); refine blk_put (cs := #[.string (⟨#[]⟩ : ByteArray), .string (⟨#[]⟩ : ByteArray)]) ?_ 0 _ rfl; (with_reducible repeat (first | refine blk_drewN ?_ _ | refine blk_drew ?_ | refine blk_alloc ?_ _)); refine blk_far ?_ NB159_167.out _; (with_reducible repeat (first | refine blk_drewN ?_ _ | refine blk_drew ?_ | refine blk_alloc ?_ _)); refine blk_far ?_ NB159_167.out _; exact lb BK159.out) Tryz.underlying25 rfl (by kernel_rfl)) rfl ?_
  exact ⟨lx, by exact lI47 HI0.out, by exact lB HB.out, by exact lK HK.out⟩
def spec_DrawRootsOf.l0 : Nat → Int → Int → List Int → Int → Int → ByteArray → ByteArray → ByteArray → ByteArray → Option (ByteArray × ByteArray × Int)
  | 0, _, _, _, _, _, _, _, _, _ => none
  | k + 1, x5, x8, x191000, x191001, x191002, x205000, x205001, x208000, x208001 => if x8 < x5 then ((spec_prTimes.f x208000 x208001 x205000 x205001).bind fun bt208 => (spec_DrawRootsOf.l0 k x5 (wrap64 (x8 + 1)) x191000 x191001 x191002 x205000 x205001 bt208.1 bt208.2)) else ((spec_prGood.f x208000 x208001).bind fun t210 => (if t210 = true then ((spec_l1Cur_one.f x191000 x191001 x191002 4).bind fun bt211 => (if bt211.1 = true then ((spec_l1Cur_pair.f k x191000 bt211.2.1 bt211.2.2 4).bind fun bt214 => (some (bt214.1, bt214.2.1, x5))) else (some (x208000, x208001, x5)))) else ((spec_l1Cur_pair.f k x191000 x191001 x191002 4).bind fun bt218 => (some (bt218.1, bt218.2.1, x5)))))
def spec_DrawRootsOf.f (k : Nat) (l0 : List Int) : Option (ByteArray × ByteArray × Int) := (spec_l1Cur_among.f l0 0 0 (([2, 2, 3, 4, 1, 5] : List Int))).bind fun bt194 => ((spec_l1Cur_pick.f l0 bt194.2.1 bt194.2.2 4).bind fun bt197 => ((spec_l1Cur_surePair.f k l0 bt197.2.1 bt197.2.2 bt197.1).bind fun bt200 => ((spec_prUnit.f).bind fun bt205 => (spec_DrawRootsOf.l0 k bt194.1 0 l0 bt200.2.2.1 bt200.2.2.2 bt200.1 bt200.2.1 bt205.1 bt205.2))))
set_option maxHeartbeats 8000000 in
set_option maxRecDepth 100000 in
theorem spec_DrawRootsOf.calls (k : Nat) (A0 : Option Addr) (c0 : Nat) (l0 : List Int) (r1 : ByteArray) (r2 : ByteArray) (r3 : Int) (w : World) (hr0 : Kd.C (Kd.int .u8) w A0 l0.length l0) (hc0 : l0.length ≤ c0) (h : spec_DrawRootsOf.f k l0 = some (r1, r2, r3)) :
    Calls Tryz.prog 5 #[.slice A0 l0.length c0] w fun e w' => e = .returned (.tuple #[.agg #[.string r1, .string r2], .int .i64 r3]) ∧ Below w.heap.size w w' := by
  have hu25 := Tryz.underlying25
  have hu47 := Tryz.underlying47
  have HR0 := Aside0.mk hr0
  have HC0 := Aside0.mk hc0
  clear hr0 hc0
  have HB := Aside0.mk (Below.refl w.heap.size w)
  have H : ((spec_l1Cur_among.f l0 0 0 (([2, 2, 3, 4, 1, 5] : List Int))).bind fun bt194 => ((spec_l1Cur_pick.f l0 bt194.2.1 bt194.2.2 4).bind fun bt197 => ((spec_l1Cur_surePair.f k l0 bt197.2.1 bt197.2.2 bt197.1).bind fun bt200 => ((spec_prUnit.f).bind fun bt205 => (spec_DrawRootsOf.l0 k bt194.1 0 l0 bt200.2.2.1 bt200.2.2.2 bt200.1 bt200.2.1 bt205.1 bt205.2))))) = some (r1, r2, r3) := h
  clear h
  obtain ⟨y191, hy191⟩ : ∃ y_ : List Int, y_ = (([2, 2, 3, 4, 1, 5] : List Int)) := ⟨_, rfl⟩
  replace H : ((spec_l1Cur_among.f l0 0 0 y191).bind fun bt194 => ((spec_l1Cur_pick.f l0 bt194.2.1 bt194.2.2 4).bind fun bt197 => ((spec_l1Cur_surePair.f k l0 bt197.2.1 bt197.2.2 bt197.1).bind fun bt200 => ((spec_prUnit.f).bind fun bt205 => (spec_DrawRootsOf.l0 k bt194.1 0 l0 bt200.2.2.1 bt200.2.2.2 bt200.1 bt200.2.1 bt205.1 bt205.2))))) = some (r1, r2, r3) := by first | (rw [hy191]; with_reducible exact H) | (have H2_ := (Option.bind_some _ _).symm.trans H; rw [hy191]; with_reducible exact H2_) | (have H2_ := (Option.bind_some _ _).symm.trans H; with_reducible exact H2_) | with_reducible exact H | (rw [hy191]; exact H) | exact H
  have Ny191 := Aside0.mk hy191
  clear hy191
  replace H := Option.bind_eq_some_iff.mp H
  obtain ⟨⟨t194, t195, t196⟩, A20, H⟩ := H
  replace H : ((spec_l1Cur_pick.f l0 t195 t196 4).bind fun bt197 => ((spec_l1Cur_surePair.f k l0 bt197.2.1 bt197.2.2 bt197.1).bind fun bt200 => ((spec_prUnit.f).bind fun bt205 => (spec_DrawRootsOf.l0 k t194 0 l0 bt200.2.2.1 bt200.2.2.2 bt200.1 bt200.2.1 bt205.1 bt205.2)))) = some (r1, r2, r3) := H
  have A2 := Aside0.mk A20
  clear A20
  replace H := Option.bind_eq_some_iff.mp H
  obtain ⟨⟨t197, t198, t199⟩, A30, H⟩ := H
  replace H : ((spec_l1Cur_surePair.f k l0 t198 t199 t197).bind fun bt200 => ((spec_prUnit.f).bind fun bt205 => (spec_DrawRootsOf.l0 k t194 0 l0 bt200.2.2.1 bt200.2.2.2 bt200.1 bt200.2.1 bt205.1 bt205.2))) = some (r1, r2, r3) := H
  have A3 := Aside0.mk A30
  clear A30
  replace H := Option.bind_eq_some_iff.mp H
  obtain ⟨⟨t200, t201, t202, t203⟩, A40, H⟩ := H
  replace H : ((spec_prUnit.f).bind fun bt205 => (spec_DrawRootsOf.l0 k t194 0 l0 t202 t203 t200 t201 bt205.1 bt205.2)) = some (r1, r2, r3) := H
  have A4 := Aside0.mk A40
  clear A40
  replace H := Option.bind_eq_some_iff.mp H
  obtain ⟨⟨t205, t206⟩, A50, H⟩ := H
  replace H : (spec_DrawRootsOf.l0 k t194 0 l0 t202 t203 t200 t201 t205 t206) = some (r1, r2, r3) := H
  have A5 := Aside0.mk A50
  clear A50
  have H' := Aside0.mk H
  clear H
  go_enter Tryz.func5, Tryz.ntmps5
  go_wp2_with (first | ((with_reducible refine gate_dst (N := 2) rfl ?_); refine box_event ?hg (N := 2) ?hd (cs := #[.string (⟨#[]⟩ : ByteArray), .string (⟨#[]⟩ : ByteArray)]) (t := 25) ?hr ?_; (case hd => rfl); (case hg => rfl); (case hr => exact lr); intro gb189 hg w6 hbox hb; have n0_ := Aside0.mk (below_step (lB HB.out) hb); have n1_ := Aside0.mk (hbox); have n2_ := gw hg (lB HB.out); have n3_ := gw hg (lB HB.out); clear HB; have HB := n0_; have BK189 := n1_; have GW189 := n2_; have GE189 := n3_; clear n0_ n1_ n2_ n3_; clear hb hbox hg) | ((with_reducible refine gate_dst (N := 11) rfl ?_); refine box_event ?hg (N := 11) ?hd (cs := #[.slice A0 l0.length c0, .int .i64 0, .int .u64 0]) (t := 47) ?hr ?_; (case hd => rfl); (case hg => rfl); (case hr => exact lr); intro gb190 hg w7 hbox hb; have n0_ := Aside0.mk (blk_below (lb BK189.out) hb); have n1_ := Aside0.mk (below_step (lB HB.out) hb); have n2_ := gw hg (lB HB.out); have n3_ := gw hg (lB HB.out); have n4_ := na hg (lb BK189.out); have n5_ := nz hg (lb BK189.out); have n6_ := Aside0.mk ((show IsS47 w w7 gb190 l0 0 0 from ⟨_, _, hbox, (by rw [hg]; exact (below_size (lB HB.out)) : w.heap.size ≤ gb190), HR0.out⟩)); clear BK189 HB; have BK189 := n0_; have HB := n1_; have GW190 := n2_; have GE190 := n3_; have NB189_190 := n4_; have NB190_189 := n5_; have HI190 := n6_; clear n0_ n1_ n2_ n3_ n4_ n5_ n6_; clear hb hbox hg) | ((with_reducible refine gate_dst (N := 13) rfl ?_); refine Kd.R_lit (Kd.int .i64) _ 3 ?hg (N := 13) ?hd (xs := ([2, 2, 3, 4, 1, 5] : List Int)) (inner := [.int .i64 2, .int .i64 2, .int .i64 3, .int .i64 4, .int .i64 1, .int .i64 5]) (ok := fun _ => True) (okp := fun _ => True) ?hr ?hp (fun _ hk => hk) trivial (Below.refl _ _) (Nat.le_refl _) (by simp) ?_; (case hd => rfl); (case hg => rfl); (case hr => exact lr); (case hp => exact (Reps.one (show Kd.M (Kd.int .i64) _ _ _ 2 [.int .i64 2] from rfl) (Reps.one (show Kd.M (Kd.int .i64) _ _ _ 2 [.int .i64 2] from rfl) (Reps.one (show Kd.M (Kd.int .i64) _ _ _ 3 [.int .i64 3] from rfl) (Reps.one (show Kd.M (Kd.int .i64) _ _ _ 4 [.int .i64 4] from rfl) (Reps.one (show Kd.M (Kd.int .i64) _ _ _ 1 [.int .i64 1] from rfl) (Reps.one (show Kd.M (Kd.int .i64) _ _ _ 5 [.int .i64 5] from rfl) (Reps.none _ _)))))))); intro v192 w8 ho9 hb hg_ hnew_; clear hg_ hnew_; (first | rw [← Ny191.out] at ho9 | (simp only [Int.reduceToNat] at ho9; rw [← Ny191.out] at ho9)); have n0_ := Aside0.mk (Kd.R_lower ho9 (below_size (lB HB.out))); have n1_ := Aside0.mk (blk_below (lb BK189.out) hb); have n2_ := Aside0.mk (IsS47.below (lI47 HI190.out) hb); have n3_ := Aside0.mk (below_step (lB HB.out) hb); clear BK189 HI190 HB; have HO193 := n0_; have BK189 := n1_; have HI190 := n2_; have HB := n3_; clear n0_ n1_ n2_ n3_; clear hb ho9; obtain ⟨Ao10, co10, eo10⟩ := Kd.R_slice HO193.out; subst eo10) | ((with_reducible refine gate_callee (f := 22) rfl ?_); refine goesL_ (some 14) rfl rfl Tryz.func22 (by kernel_rfl) rfl #[.pointer (some ⟨gb190, 0, none⟩), .slice Ao10 y191.length co10] rfl lm ?_; (with_reducible refine (spec_l1Cur_among.calls gb190 l0 0 0 _ _ y191 t194 t195 t196 w _ ?side1 ?side2 ?side3 ?side4 ?side5 A2.out).mono ?_); (case side1 => exact lI47 HI190.out); (case side2 => exact lB HB.out); (case side3 => repeat (first | exact (Kd.R_reads' HO193.out).2.2 | (with_reducible refine Kd.C_alloc ?_ _) | (with_reducible refine Kd.C_drewN ?_ _) | (with_reducible refine Kd.C_drew ?_))); (case side4 => exact (Kd.R_reads' HO193.out).2.1); (case side5 => exact far_slice (IsS47.own_ne HI190.out HO193.out (by decide))); rintro e w11 ⟨rfl, hi, hb, hk⟩; refine ⟨_, rfl, ?_⟩; have n0_ := Aside0.mk (KeepBut.blk hk (g' := gb189) (o := .cells #[.string (⟨#[]⟩ : ByteArray), .string (⟨#[]⟩ : ByteArray)] 25 (0, 0)) (lb BK189.out) NB189_190.out (by simp)); have n1_ := Aside0.mk (Kd.R_mono (Kd.R_keep (IsS47.apart (show IsS47 w _ gb190 l0 0 0 from by exact lI47 HI190.out) (by (with_reducible repeat (first | apply Kd.R_alloc | apply Kd.R_drewN | apply Kd.R_drew)); exact HO193.out) (by decide)) hk (fun _ h => h.2)) (fun _ h => h.1)); have n2_ := Aside0.mk (hb); have n3_ := Aside0.mk (hi); clear BK189 HO193 HB HI190; have BK189 := n0_; have HO193 := n1_; have HB := n2_; have HI190 := n3_; clear n0_ n1_ n2_ n3_; (try clear hb); (try clear hb2); (try clear hk); (try clear hi)) | ((with_reducible refine gate_callee (f := 24) rfl ?_); refine goesL_ (some 17) rfl rfl Tryz.func24 (by kernel_rfl) rfl #[.pointer (some ⟨gb190, 0, none⟩), .int .i64 4] rfl lm ?_; (with_reducible refine (spec_l1Cur_pick.calls gb190 l0 t195 t196 4 t197 t198 t199 w _ ?side1 ?side2 A3.out).mono ?_); (case side1 => exact lI47 HI190.out); (case side2 => exact lB HB.out); rintro e w12 ⟨rfl, hi, hb, hk⟩; refine ⟨_, rfl, ?_⟩; have n0_ := Aside0.mk (KeepBut.blk hk (g' := gb189) (o := .cells #[.string (⟨#[]⟩ : ByteArray), .string (⟨#[]⟩ : ByteArray)] 25 (0, 0)) (lb BK189.out) NB189_190.out (by simp)); have n1_ := Aside0.mk (Kd.R_mono (Kd.R_keep (IsS47.apart (show IsS47 w _ gb190 l0 t195 t196 from by exact lI47 HI190.out) (by (with_reducible repeat (first | apply Kd.R_alloc | apply Kd.R_drewN | apply Kd.R_drew)); exact HO193.out) (by decide)) hk (fun _ h => h.2)) (fun _ h => h.1)); have n2_ := Aside0.mk (hb); have n3_ := Aside0.mk (hi); clear BK189 HO193 HB HI190; have BK189 := n0_; have HO193 := n1_; have HB := n2_; have HI190 := n3_; clear n0_ n1_ n2_ n3_; (try clear hb); (try clear hb2); (try clear hk); (try clear hi)) | ((with_reducible refine gate_callee (f := 23) rfl ?_); refine goesL_ (some 18) rfl rfl Tryz.func23 (by kernel_rfl) rfl #[.pointer (some ⟨gb190, 0, none⟩), .int .i64 t197] rfl lm ?_; (with_reducible refine (spec_l1Cur_surePair.calls k gb190 l0 t198 t199 t197 t200 t201 t202 t203 w _ ?side1 ?side2 A4.out).mono ?_); (case side1 => exact lI47 HI190.out); (case side2 => exact lB HB.out); rintro e w13 ⟨rfl, hi, hb, hk⟩; refine ⟨_, rfl, ?_⟩; have n0_ := Aside0.mk (KeepBut.blk hk (g' := gb189) (o := .cells #[.string (⟨#[]⟩ : ByteArray), .string (⟨#[]⟩ : ByteArray)] 25 (0, 0)) (lb BK189.out) NB189_190.out (by simp)); have n1_ := Aside0.mk (Kd.R_mono (Kd.R_keep (IsS47.apart (show IsS47 w _ gb190 l0 t198 t199 from by exact lI47 HI190.out) (by (with_reducible repeat (first | apply Kd.R_alloc | apply Kd.R_drewN | apply Kd.R_drew)); exact HO193.out) (by decide)) hk (fun _ h => h.2)) (fun _ h => h.1)); have n2_ := Aside0.mk (hb); have n3_ := Aside0.mk (hi); clear BK189 HO193 HB HI190; have BK189 := n0_; have HO193 := n1_; have HB := n2_; have HI190 := n3_; clear n0_ n1_ n2_ n3_; (try clear hb); (try clear hb2); (try clear hk); (try clear hi)) | ((with_reducible refine gate_dst (N := 6) rfl ?_); refine box_event ?hg (N := 6) ?hd (cs := #[.string (⟨#[]⟩ : ByteArray), .string (⟨#[]⟩ : ByteArray)]) (t := 25) ?hr ?_; (case hd => rfl); (case hg => rfl); (case hr => exact lr); intro gb204 hg w14 hbox hb; have n0_ := Aside0.mk (Kd.R_below (by (with_reducible repeat (first | apply Kd.R_alloc | apply Kd.R_drewN | apply Kd.R_drew)); exact HO193.out) hb); have n1_ := Aside0.mk (blk_below (lb BK189.out) hb); have n2_ := Aside0.mk (IsS47.below (lI47 HI190.out) hb); have n3_ := Aside0.mk (below_step (lB HB.out) hb); have n4_ := Aside0.mk (hbox); have n5_ := gw hg (lB HB.out); have n6_ := gw hg (lB HB.out); have n7_ := na hg (lb BK189.out); have n8_ := nz hg (lb BK189.out); have n9_ := Aside0.mk ((by rw [hg]; exact Nat.ne_of_lt (IsS47.lt (show IsS47 w _ gb190 l0 t202 t203 from by exact lI47 HI190.out)) : gb190 ≠ gb204)); have n10_ := Aside0.mk ((by rw [hg]; exact Nat.ne_of_gt (IsS47.lt (show IsS47 w _ gb190 l0 t202 t203 from by exact lI47 HI190.out)) : gb204 ≠ gb190)); clear HO193 BK189 HI190 HB; have HO193 := n0_; have BK189 := n1_; have HI190 := n2_; have HB := n3_; have BK204 := n4_; have GW204 := n5_; have GE204 := n6_; have NB189_204 := n7_; have NB204_189 := n8_; have NB190_204 := n9_; have NB204_190 := n10_; clear n0_ n1_ n2_ n3_ n4_ n5_ n6_ n7_ n8_ n9_ n10_; clear hb hbox hg; have hnb15 := NB204_189.out; have hnc15 := NB189_204.out; have hnb16 := NB204_190.out; have hnc16 := NB190_204.out; have hcz17_0 : w14.cell? ⟨gb204, 0, none⟩ = some (.string (⟨#[]⟩ : ByteArray)) := (blk_cell BK204.out 0).trans rfl; have hcz17_1 : w14.cell? ⟨gb204, 1, none⟩ = some (.string (⟨#[]⟩ : ByteArray)) := (blk_cell BK204.out 1).trans rfl; have hfz17_0 := blk_frozen BK204.out 0; have hfz17_1 := blk_frozen BK204.out 1) | ((with_reducible refine gate_callee (f := 25) rfl ?_); refine goesL_ (some 19) rfl rfl Tryz.func25 (by kernel_rfl) rfl #[] rfl lm ?_; (with_reducible refine (spec_prUnit.calls  t205 t206 _ A5.out).mono ?_); rintro e w18 ⟨rfl, hb⟩; refine ⟨_, rfl, ?_⟩; have n0_ := Aside0.mk (Kd.R_below (by (with_reducible repeat (first | apply Kd.R_alloc | apply Kd.R_drewN | apply Kd.R_drew)); exact (Kd.R_mono (Kd.R_far (p := ⟨gb204, 1, none⟩) (Kd.R_far (p := ⟨gb204, 0, none⟩) (Kd.R_types HO193.out BK204.out (by decide)) (fun _ hk => hk.2) (.string t200)) (fun _ hk => hk.2) (.string t201)) (fun _ h_ => h_.1))) hb); have n1_ := Aside0.mk (blk_below (g := gb189) (o := .cells #[.string (⟨#[]⟩ : ByteArray), .string (⟨#[]⟩ : ByteArray)] 25 (0, 0)) (by (with_reducible repeat (first | refine blk_drewN ?_ _ | refine blk_drew ?_ | refine blk_alloc ?_ _)); refine blk_far ?_ NB189_204.out _; (with_reducible repeat (first | refine blk_drewN ?_ _ | refine blk_drew ?_ | refine blk_alloc ?_ _)); refine blk_far ?_ NB189_204.out _; exact lb BK189.out) hb); have n2_ := Aside0.mk (IsS47.below (show IsS47 w ((w14.setCell ⟨gb204, 0, none⟩ (.string t200)).setCell ⟨gb204, 1, none⟩ (.string t201)) gb190 l0 t202 t203 from by exact lI47 HI190.out) hb); have n3_ := Aside0.mk (blk_below (g := gb204) (o := .cells #[.string t200, .string t201] 25 (0, 0)) (by (with_reducible repeat (first | refine blk_drewN ?_ _ | refine blk_drew ?_ | refine blk_alloc ?_ _)); refine blk_put (cs := #[.string t200, .string (⟨#[]⟩ : ByteArray)]) ?_ 1 _ rfl; (with_reducible repeat (first | refine blk_drewN ?_ _ | refine blk_drew ?_ | refine blk_alloc ?_ _)); refine blk_put (cs := #[.string (⟨#[]⟩ : ByteArray), .string (⟨#[]⟩ : ByteArray)]) ?_ 0 _ rfl; exact lb BK204.out) hb); have n4_ := Aside0.mk (below_step (lB HB.out) hb); clear HO193 BK189 HI190 BK204 HB; have HO193 := n0_; have BK189 := n1_; have HI190 := n2_; have BK204 := n3_; have HB := n4_; clear n0_ n1_ n2_ n3_ n4_; (try clear hb); (try clear hb2); (try clear hk); (try clear hi)) | ((with_reducible refine gate_dst (N := 7) rfl ?_); refine box_event ?hg (N := 7) ?hd (cs := #[.string (⟨#[]⟩ : ByteArray), .string (⟨#[]⟩ : ByteArray)]) (t := 25) ?hr ?_; (case hd => rfl); (case hg => rfl); (case hr => exact lr); intro gb207 hg w19 hbox hb; have n0_ := Aside0.mk (Kd.R_below (by (with_reducible repeat (first | apply Kd.R_alloc | apply Kd.R_drewN | apply Kd.R_drew)); exact HO193.out) hb); have n1_ := Aside0.mk (blk_below (lb BK189.out) hb); have n2_ := Aside0.mk (IsS47.below (lI47 HI190.out) hb); have n3_ := Aside0.mk (blk_below (lb BK204.out) hb); have n4_ := Aside0.mk (below_step (lB HB.out) hb); have n5_ := Aside0.mk (hbox); have n6_ := gw hg (lB HB.out); have n7_ := gw hg (lB HB.out); have n8_ := na hg (lb BK189.out); have n9_ := nz hg (lb BK189.out); have n10_ := na hg (lb BK204.out); have n11_ := nz hg (lb BK204.out); have n12_ := Aside0.mk ((by rw [hg]; exact Nat.ne_of_lt (IsS47.lt (show IsS47 w _ gb190 l0 t202 t203 from by exact lI47 HI190.out)) : gb190 ≠ gb207)); have n13_ := Aside0.mk ((by rw [hg]; exact Nat.ne_of_gt (IsS47.lt (show IsS47 w _ gb190 l0 t202 t203 from by exact lI47 HI190.out)) : gb207 ≠ gb190)); clear HO193 BK189 HI190 BK204 HB; have HO193 := n0_; have BK189 := n1_; have HI190 := n2_; have BK204 := n3_; have HB := n4_; have BK207 := n5_; have GW207 := n6_; have GE207 := n7_; have NB189_207 := n8_; have NB207_189 := n9_; have NB204_207 := n10_; have NB207_204 := n11_; have NB190_207 := n12_; have NB207_190 := n13_; clear n0_ n1_ n2_ n3_ n4_ n5_ n6_ n7_ n8_ n9_ n10_ n11_ n12_ n13_; clear hb hbox hg; have hnb20 := NB207_189.out; have hnc20 := NB189_207.out; have hnb21 := NB207_204.out; have hnc21 := NB204_207.out; have hnb22 := NB207_190.out; have hnc22 := NB190_207.out; have hcz23_0 : w19.cell? ⟨gb207, 0, none⟩ = some (.string (⟨#[]⟩ : ByteArray)) := (blk_cell BK207.out 0).trans rfl; have hcz23_1 : w19.cell? ⟨gb207, 1, none⟩ = some (.string (⟨#[]⟩ : ByteArray)) := (blk_cell BK207.out 1).trans rfl; have hfz23_0 := blk_frozen BK207.out 0; have hfz23_1 := blk_frozen BK207.out 1))
  go_loopg [8] k (fun kq v8 w' => ∃ (x8_1 : Int) (x208000_1 : ByteArray) (x208001_1 : ByteArray), v8 = .int .i64 x8_1 ∧ Aside0 (spec_DrawRootsOf.l0 kq t194 x8_1 l0 t202 t203 t200 t201 x208000_1 x208001_1 = some (r1, r2, r3)) ∧ Aside0 (kq ≤ k) ∧ Aside0 (w'.heap[gb189]? = some (.cells #[.string (⟨#[]⟩ : ByteArray), .string (⟨#[]⟩ : ByteArray)] 25 (0, 0))) ∧ Aside0 (w'.heap[gb204]? = some (.cells #[.string t200, .string t201] 25 (0, 0))) ∧ Aside0 (w'.heap[gb207]? = some (.cells #[.string x208000_1, .string x208001_1] 25 (0, 0))) ∧ Aside0 (IsS47 w w' gb190 l0 t202 t203) ∧ Aside0 (Below w.heap.size w w'))
  case atStart => exact ⟨(0), (t205), (t206), (by first | rfl | (simp; done) | (simp [*]; done)), H', ⟨Nat.le_refl _⟩, ⟨by (with_reducible repeat (first | refine blk_drewN ?_ _ | refine blk_drew ?_ | refine blk_alloc ?_ _)); refine blk_far ?_ NB189_207.out _; (with_reducible repeat (first | refine blk_drewN ?_ _ | refine blk_drew ?_ | refine blk_alloc ?_ _)); refine blk_far ?_ NB189_207.out _; exact lb BK189.out⟩, ⟨by (with_reducible repeat (first | refine blk_drewN ?_ _ | refine blk_drew ?_ | refine blk_alloc ?_ _)); refine blk_far ?_ NB204_207.out _; (with_reducible repeat (first | refine blk_drewN ?_ _ | refine blk_drew ?_ | refine blk_alloc ?_ _)); refine blk_far ?_ NB204_207.out _; exact lb BK204.out⟩, ⟨by (with_reducible repeat (first | refine blk_drewN ?_ _ | refine blk_drew ?_ | refine blk_alloc ?_ _)); refine blk_put (cs := #[.string t205, .string (⟨#[]⟩ : ByteArray)]) ?_ 1 _ rfl; (with_reducible repeat (first | refine blk_drewN ?_ _ | refine blk_drew ?_ | refine blk_alloc ?_ _)); refine blk_put (cs := #[.string (⟨#[]⟩ : ByteArray), .string (⟨#[]⟩ : ByteArray)]) ?_ 0 _ rfl; exact lb BK207.out⟩, ⟨by exact lI47 HI190.out⟩, ⟨by exact lB HB.out⟩⟩
  case round =>
   clear H'
   (try clear hcz17_0)
   (try clear hcz17_1)
   (try clear hcz23_0)
   (try clear hcz23_1)
   (try clear hfz17_0)
   (try clear hfz17_1)
   (try clear hfz23_0)
   (try clear hfz23_1)
   obtain ⟨x8_1, x208000_1, x208001_1, rfl, HA, HK1, BK189, BK204, BK207, HI190, HB⟩ := hrel
   cases gk with
   | zero => exact absurd HA.out (by simp [spec_DrawRootsOf.l0])
   | succ k1 =>
     have H := HA.out
     clear HA
     simp only [spec_DrawRootsOf.l0] at H
     by_cases c24 : x8_1 < t194
     · rw [if_pos c24] at H
       have c24b0 : decide (x8_1 < t194) = true := decide_eq_true c24
       clear c24
       replace H := Option.bind_eq_some_iff.mp H
       obtain ⟨⟨t208, t209⟩, A250, H⟩ := H
       replace H : (spec_DrawRootsOf.l0 k1 t194 (wrap64 (x8_1 + 1)) l0 t202 t203 t200 t201 t208 t209) = some (r1, r2, r3) := H
       have A25 := Aside0.mk A250
       clear A250
       have H' := Aside0.mk H
       clear H
       have hnb26 := NB207_189.out
       have hnc26 := NB189_207.out
       have hnb27 := NB207_204.out
       have hnc27 := NB204_207.out
       have hnb28 := NB207_190.out
       have hnc28 := NB190_207.out
       have hcz29_0 : wr.cell? ⟨gb207, 0, none⟩ = some (.string x208000_1) := (blk_cell BK207.out 0).trans rfl
       have hcz29_1 : wr.cell? ⟨gb207, 1, none⟩ = some (.string x208001_1) := (blk_cell BK207.out 1).trans rfl
       have hfz29_0 := blk_frozen BK207.out 0
       have hfz29_1 := blk_frozen BK207.out 1
       have hnb30 := NB204_189.out
       have hnc30 := NB189_204.out
       have hnb31 := NB204_190.out
       have hnc31 := NB190_204.out
       have hcz32_0 : wr.cell? ⟨gb204, 0, none⟩ = some (.string t200) := (blk_cell BK204.out 0).trans rfl
       have hcz32_1 : wr.cell? ⟨gb204, 1, none⟩ = some (.string t201) := (blk_cell BK204.out 1).trans rfl
       have hfz32_0 := blk_frozen BK204.out 0
       have hfz32_1 := blk_frozen BK204.out 1
       go_wp2_with (first | ((with_reducible refine gate_callee (f := 26) rfl ?_); refine goesL_ (some 27) rfl rfl Tryz.func26 (by kernel_rfl) rfl #[.agg #[.string x208000_1, .string x208001_1], .agg #[.string t200, .string t201]] rfl lm ?_; (with_reducible refine (spec_prTimes.calls x208000_1 x208001_1 t200 t201 t208 t209 _ A25.out).mono ?_); rintro e w33 ⟨rfl, hb⟩; refine ⟨_, rfl, ?_⟩; have n0_ := Aside0.mk (blk_below (lb BK189.out) hb); have n1_ := Aside0.mk (blk_below (lb BK204.out) hb); have n2_ := Aside0.mk (blk_below (lb BK207.out) hb); have n3_ := Aside0.mk (IsS47.below (lI47 HI190.out) hb); have n4_ := Aside0.mk (below_step (lB HB.out) hb); clear BK189 BK204 BK207 HI190 HB; have BK189 := n0_; have BK204 := n1_; have BK207 := n2_; have HI190 := n3_; have HB := n4_; clear n0_ n1_ n2_ n3_ n4_; (try clear hb); (try clear hb2); (try clear hk); (try clear hi); have hcz34_0 : w33.cell? ⟨gb207, 0, none⟩ = some (.string x208000_1) := (blk_cell BK207.out 0).trans rfl; have hcz34_1 : w33.cell? ⟨gb207, 1, none⟩ = some (.string x208001_1) := (blk_cell BK207.out 1).trans rfl; have hfz34_0 := blk_frozen BK207.out 0; have hfz34_1 := blk_frozen BK207.out 1))
       go_roundg k1
       case measure => have := HK1.out; omega
       case rel => exact ⟨(wrap64 (x8_1 + 1)), (t208), (t209), (by first | rfl | (simp; done) | (simp [*]; done)), H', ⟨by have := HK1.out; omega⟩, ⟨by (with_reducible repeat (first | refine blk_drewN ?_ _ | refine blk_drew ?_ | refine blk_alloc ?_ _)); refine blk_far ?_ NB189_207.out _; (with_reducible repeat (first | refine blk_drewN ?_ _ | refine blk_drew ?_ | refine blk_alloc ?_ _)); refine blk_far ?_ NB189_207.out _; exact lb BK189.out⟩, ⟨by (with_reducible repeat (first | refine blk_drewN ?_ _ | refine blk_drew ?_ | refine blk_alloc ?_ _)); refine blk_far ?_ NB204_207.out _; (with_reducible repeat (first | refine blk_drewN ?_ _ | refine blk_drew ?_ | refine blk_alloc ?_ _)); refine blk_far ?_ NB204_207.out _; exact lb BK204.out⟩, ⟨by (with_reducible repeat (first | refine blk_drewN ?_ _ | refine blk_drew ?_ | refine blk_alloc ?_ _)); refine blk_put (cs := #[.string t208, .string x208001_1]) ?_ 1 _ rfl; (with_reducible repeat (first | refine blk_drewN ?_ _ | refine blk_drew ?_ | refine blk_alloc ?_ _)); refine blk_put (cs := #[.string x208000_1, .string x208001_1]) ?_ 0 _ rfl; exact lb BK207.out⟩, ⟨by exact lI47 HI190.out⟩, ⟨by exact lB HB.out⟩⟩
     · rw [if_neg c24] at H
       have c24b0 : decide (x8_1 < t194) = false := decide_eq_false c24
       clear c24
       replace H := Option.bind_eq_some_iff.mp H
       obtain ⟨t210, A350, H⟩ := H
       replace H : (if t210 = true then ((spec_l1Cur_one.f l0 t202 t203 4).bind fun bt211 => (if bt211.1 = true then ((spec_l1Cur_pair.f k1 l0 bt211.2.1 bt211.2.2 4).bind fun bt214 => (some (bt214.1, bt214.2.1, t194))) else (some (x208000_1, x208001_1, t194)))) else ((spec_l1Cur_pair.f k1 l0 t202 t203 4).bind fun bt218 => (some (bt218.1, bt218.2.1, t194)))) = some (r1, r2, r3) := H
       have A35 := Aside0.mk A350
       clear A350
       by_cases c36 : t210 = true
       · subst c36
         have H1 : ((spec_l1Cur_one.f l0 t202 t203 4).bind fun bt211 => (if bt211.1 = true then ((spec_l1Cur_pair.f k1 l0 bt211.2.1 bt211.2.2 4).bind fun bt214 => (some (bt214.1, bt214.2.1, t194))) else (some (x208000_1, x208001_1, t194)))) = some (r1, r2, r3) := by rw [if_pos rfl] at H; exact H
         clear H
         have H := H1
         clear H1
         replace H := Option.bind_eq_some_iff.mp H
         obtain ⟨⟨t211, t212, t213⟩, A370, H⟩ := H
         replace H : (if t211 = true then ((spec_l1Cur_pair.f k1 l0 t212 t213 4).bind fun bt214 => (some (bt214.1, bt214.2.1, t194))) else (some (x208000_1, x208001_1, t194))) = some (r1, r2, r3) := H
         have A37 := Aside0.mk A370
         clear A370
         by_cases c38 : t211 = true
         · subst c38
           have H1 : ((spec_l1Cur_pair.f k1 l0 t212 t213 4).bind fun bt214 => (some (bt214.1, bt214.2.1, t194))) = some (r1, r2, r3) := by rw [if_pos rfl] at H; exact H
           clear H
           have H := H1
           clear H1
           replace H := Option.bind_eq_some_iff.mp H
           obtain ⟨⟨t214, t215, t216, t217⟩, A390, H⟩ := H
           replace H : (some (t214, t215, t194)) = some (r1, r2, r3) := H
           have A39 := Aside0.mk A390
           clear A390
           simp only [Option.some.injEq, Prod.mk.injEq] at H
           obtain ⟨rfl, rfl, rfl⟩ := H
           have hnb40 := NB207_189.out
           have hnc40 := NB189_207.out
           have hnb41 := NB207_204.out
           have hnc41 := NB204_207.out
           have hnb42 := NB207_190.out
           have hnc42 := NB190_207.out
           have hcz43_0 : wr.cell? ⟨gb207, 0, none⟩ = some (.string x208000_1) := (blk_cell BK207.out 0).trans rfl
           have hcz43_1 : wr.cell? ⟨gb207, 1, none⟩ = some (.string x208001_1) := (blk_cell BK207.out 1).trans rfl
           have hfz43_0 := blk_frozen BK207.out 0
           have hfz43_1 := blk_frozen BK207.out 1
           go_wp2_with (first | ((with_reducible refine gate_callee (f := 27) rfl ?_); refine goesL_ (some 29) rfl rfl Tryz.func27 (by kernel_rfl) rfl #[.agg #[.string x208000_1, .string x208001_1]] rfl lm ?_; (with_reducible refine (spec_prGood.calls x208000_1 x208001_1 true _ A35.out).mono ?_); rintro e w44 ⟨rfl, hb⟩; refine ⟨_, rfl, ?_⟩; have n0_ := Aside0.mk (blk_below (lb BK189.out) hb); have n1_ := Aside0.mk (blk_below (lb BK204.out) hb); have n2_ := Aside0.mk (blk_below (lb BK207.out) hb); have n3_ := Aside0.mk (IsS47.below (lI47 HI190.out) hb); have n4_ := Aside0.mk (below_step (lB HB.out) hb); clear BK189 BK204 BK207 HI190 HB; have BK189 := n0_; have BK204 := n1_; have BK207 := n2_; have HI190 := n3_; have HB := n4_; clear n0_ n1_ n2_ n3_ n4_; (try clear hb); (try clear hb2); (try clear hk); (try clear hi)) | (go_at_call 28; (with_reducible refine (spec_l1Cur_one.calls gb190 l0 t202 t203 4 true t212 t213 w _ ?side1 ?side2 A37.out).mono ?_); (case side1 => exact lI47 HI190.out); (case side2 => exact lB HB.out); rintro e w45 ⟨rfl, hi, hb, hk⟩; have n0_ := Aside0.mk (KeepBut.blk hk (g' := gb189) (o := .cells #[.string (⟨#[]⟩ : ByteArray), .string (⟨#[]⟩ : ByteArray)] 25 (0, 0)) (lb BK189.out) NB189_190.out (by simp)); have n1_ := Aside0.mk (KeepBut.blk hk (g' := gb204) (o := .cells #[.string t200, .string t201] 25 (0, 0)) (lb BK204.out) NB204_190.out (by simp)); have n2_ := Aside0.mk (KeepBut.blk hk (g' := gb207) (o := .cells #[.string x208000_1, .string x208001_1] 25 (0, 0)) (lb BK207.out) NB207_190.out (by simp)); have n3_ := Aside0.mk (hb); have n4_ := Aside0.mk (hi); clear BK189 BK204 BK207 HB HI190; have BK189 := n0_; have BK204 := n1_; have BK207 := n2_; have HB := n3_; have HI190 := n4_; clear n0_ n1_ n2_ n3_ n4_; (try clear hb); (try clear hb2); (try clear hk); (try clear hi)) | ((with_reducible refine gate_callee (f := 29) rfl ?_); refine goesL_ (some 38) rfl rfl Tryz.func29 (by kernel_rfl) rfl #[.pointer (some ⟨gb190, 0, none⟩), .int .i64 4] rfl lm ?_; (with_reducible refine (spec_l1Cur_pair.calls k1 gb190 l0 t212 t213 4 t214 t215 t216 t217 w _ ?side1 ?side2 A39.out).mono ?_); (case side1 => exact lI47 HI190.out); (case side2 => exact lB HB.out); rintro e w46 ⟨rfl, hi, hb, hk⟩; refine ⟨_, rfl, ?_⟩; have n0_ := Aside0.mk (KeepBut.blk hk (g' := gb189) (o := .cells #[.string (⟨#[]⟩ : ByteArray), .string (⟨#[]⟩ : ByteArray)] 25 (0, 0)) (lb BK189.out) NB189_190.out (by simp)); have n1_ := Aside0.mk (KeepBut.blk hk (g' := gb204) (o := .cells #[.string t200, .string t201] 25 (0, 0)) (lb BK204.out) NB204_190.out (by simp)); have n2_ := Aside0.mk (KeepBut.blk hk (g' := gb207) (o := .cells #[.string x208000_1, .string x208001_1] 25 (0, 0)) (lb BK207.out) NB207_190.out (by simp)); have n3_ := Aside0.mk (hb); have n4_ := Aside0.mk (hi); clear BK189 BK204 BK207 HB HI190; have BK189 := n0_; have BK204 := n1_; have BK207 := n2_; have HB := n3_; have HI190 := n4_; clear n0_ n1_ n2_ n3_ n4_; (try clear hb); (try clear hb2); (try clear hk); (try clear hi); have hnb47 := NB189_204.out; have hnc47 := NB204_189.out; have hnb48 := NB189_190.out; have hnc48 := NB190_189.out; have hcz49_0 : w46.cell? ⟨gb189, 0, none⟩ = some (.string (⟨#[]⟩ : ByteArray)) := (blk_cell BK189.out 0).trans rfl; have hcz49_1 : w46.cell? ⟨gb189, 1, none⟩ = some (.string (⟨#[]⟩ : ByteArray)) := (blk_cell BK189.out 1).trans rfl; have hfz49_0 := blk_frozen BK189.out 0; have hfz49_1 := blk_frozen BK189.out 1))
           refine bodyPost_ret (results_ct rfl _ _ gb189 25 #[.string t214, .string t215] (0, 0) _ rfl (by (with_reducible repeat (first | refine blk_drewN ?_ _ | refine blk_drew ?_ | refine blk_alloc ?_ _)); refine blk_put (cs := #[.string t214, .string (⟨#[]⟩ : ByteArray)]) ?_ 1 _ rfl; (with_reducible repeat (first | refine blk_drewN ?_ _ | refine blk_drew ?_ | refine blk_alloc ?_ _)); refine blk_put (cs := #[.string (⟨#[]⟩ : ByteArray), .string (⟨#[]⟩ : ByteArray)]) ?_ 0 _ rfl; exact lb BK189.out) Tryz.underlying25 rfl (by kernel_rfl)) rfl ?_
           exact ⟨lx, by exact lB HB.out⟩
         · replace c38 := Bool.eq_false_iff.mpr c38
           subst c38
           have H1 : (some (x208000_1, x208001_1, t194)) = some (r1, r2, r3) := by rw [if_neg (show ¬ (false = true) by decide)] at H; exact H
           clear H
           have H := H1
           clear H1
           simp only [Option.some.injEq, Prod.mk.injEq] at H
           obtain ⟨rfl, rfl, rfl⟩ := H
           have hnb50 := NB207_189.out
           have hnc50 := NB189_207.out
           have hnb51 := NB207_204.out
           have hnc51 := NB204_207.out
           have hnb52 := NB207_190.out
           have hnc52 := NB190_207.out
           have hcz53_0 : wr.cell? ⟨gb207, 0, none⟩ = some (.string x208000_1) := (blk_cell BK207.out 0).trans rfl
           have hcz53_1 : wr.cell? ⟨gb207, 1, none⟩ = some (.string x208001_1) := (blk_cell BK207.out 1).trans rfl
           have hfz53_0 := blk_frozen BK207.out 0
           have hfz53_1 := blk_frozen BK207.out 1
           go_wp2_with (first | ((with_reducible refine gate_callee (f := 27) rfl ?_); refine goesL_ (some 29) rfl rfl Tryz.func27 (by kernel_rfl) rfl #[.agg #[.string x208000_1, .string x208001_1]] rfl lm ?_; (with_reducible refine (spec_prGood.calls x208000_1 x208001_1 true _ A35.out).mono ?_); rintro e w54 ⟨rfl, hb⟩; refine ⟨_, rfl, ?_⟩; have n0_ := Aside0.mk (blk_below (lb BK189.out) hb); have n1_ := Aside0.mk (blk_below (lb BK204.out) hb); have n2_ := Aside0.mk (blk_below (lb BK207.out) hb); have n3_ := Aside0.mk (IsS47.below (lI47 HI190.out) hb); have n4_ := Aside0.mk (below_step (lB HB.out) hb); clear BK189 BK204 BK207 HI190 HB; have BK189 := n0_; have BK204 := n1_; have BK207 := n2_; have HI190 := n3_; have HB := n4_; clear n0_ n1_ n2_ n3_ n4_; (try clear hb); (try clear hb2); (try clear hk); (try clear hi)) | (go_at_call 28; (with_reducible refine (spec_l1Cur_one.calls gb190 l0 t202 t203 4 false t212 t213 w _ ?side1 ?side2 A37.out).mono ?_); (case side1 => exact lI47 HI190.out); (case side2 => exact lB HB.out); rintro e w55 ⟨rfl, hi, hb, hk⟩; have n0_ := Aside0.mk (KeepBut.blk hk (g' := gb189) (o := .cells #[.string (⟨#[]⟩ : ByteArray), .string (⟨#[]⟩ : ByteArray)] 25 (0, 0)) (lb BK189.out) NB189_190.out (by simp)); have n1_ := Aside0.mk (KeepBut.blk hk (g' := gb204) (o := .cells #[.string t200, .string t201] 25 (0, 0)) (lb BK204.out) NB204_190.out (by simp)); have n2_ := Aside0.mk (KeepBut.blk hk (g' := gb207) (o := .cells #[.string x208000_1, .string x208001_1] 25 (0, 0)) (lb BK207.out) NB207_190.out (by simp)); have n3_ := Aside0.mk (hb); have n4_ := Aside0.mk (hi); clear BK189 BK204 BK207 HB HI190; have BK189 := n0_; have BK204 := n1_; have BK207 := n2_; have HB := n3_; have HI190 := n4_; clear n0_ n1_ n2_ n3_ n4_; (try clear hb); (try clear hb2); (try clear hk); (try clear hi); have hcz56_0 : w55.cell? ⟨gb207, 0, none⟩ = some (.string x208000_1) := (blk_cell BK207.out 0).trans rfl; have hcz56_1 : w55.cell? ⟨gb207, 1, none⟩ = some (.string x208001_1) := (blk_cell BK207.out 1).trans rfl; have hfz56_0 := blk_frozen BK207.out 0; have hfz56_1 := blk_frozen BK207.out 1; have hnb57 := NB189_204.out; have hnc57 := NB204_189.out; have hnb58 := NB189_190.out; have hnc58 := NB190_189.out; have hcz59_0 : w55.cell? ⟨gb189, 0, none⟩ = some (.string (⟨#[]⟩ : ByteArray)) := (blk_cell BK189.out 0).trans rfl; have hcz59_1 : w55.cell? ⟨gb189, 1, none⟩ = some (.string (⟨#[]⟩ : ByteArray)) := (blk_cell BK189.out 1).trans rfl; have hfz59_0 := blk_frozen BK189.out 0; have hfz59_1 := blk_frozen BK189.out 1))
           refine bodyPost_ret (results_ct rfl _ _ gb189 25 #[.string x208000_1, .string x208001_1] (0, 0) _ rfl (by (with_reducible repeat (first | refine blk_drewN ?_ _ | refine blk_drew ?_ | refine blk_alloc ?_ _)); refine blk_put (cs := #[.string x208000_1, .string (⟨#[]⟩ : ByteArray)]) ?_ 1 _ rfl; (with_reducible repeat (first | refine blk_drewN ?_ _ | refine blk_drew ?_ | refine blk_alloc ?_ _)); refine blk_put (cs := #[.string (⟨#[]⟩ : ByteArray), .string (⟨#[]⟩ : ByteArray)]) ?_ 0 _ rfl; exact lb BK189.out) Tryz.underlying25 rfl (by kernel_rfl)) rfl ?_
           exact ⟨lx, by exact lB HB.out⟩
       · replace c36 := Bool.eq_false_iff.mpr c36
         subst c36
         have H1 : ((spec_l1Cur_pair.f k1 l0 t202 t203 4).bind fun bt218 => (some (bt218.1, bt218.2.1, t194))) = some (r1, r2, r3) := by rw [if_neg (show ¬ (false = true) by decide)] at H; exact H
         clear H
         have H := H1
         clear H1
         replace H := Option.bind_eq_some_iff.mp H
         obtain ⟨⟨t218, t219, t220, t221⟩, A600, H⟩ := H
         replace H : (some (t218, t219, t194)) = some (r1, r2, r3) := H
         have A60 := Aside0.mk A600
         clear A600
         simp only [Option.some.injEq, Prod.mk.injEq] at H
         obtain ⟨rfl, rfl, rfl⟩ := H
         have hnb61 := NB207_189.out
         have hnc61 := NB189_207.out
         have hnb62 := NB207_204.out
         have hnc62 := NB204_207.out
         have hnb63 := NB207_190.out
         have hnc63 := NB190_207.out
         have hcz64_0 : wr.cell? ⟨gb207, 0, none⟩ = some (.string x208000_1) := (blk_cell BK207.out 0).trans rfl
         have hcz64_1 : wr.cell? ⟨gb207, 1, none⟩ = some (.string x208001_1) := (blk_cell BK207.out 1).trans rfl
         have hfz64_0 := blk_frozen BK207.out 0
         have hfz64_1 := blk_frozen BK207.out 1
         go_wp2_with (first | ((with_reducible refine gate_callee (f := 27) rfl ?_); refine goesL_ (some 29) rfl rfl Tryz.func27 (by kernel_rfl) rfl #[.agg #[.string x208000_1, .string x208001_1]] rfl lm ?_; (with_reducible refine (spec_prGood.calls x208000_1 x208001_1 false _ A35.out).mono ?_); rintro e w65 ⟨rfl, hb⟩; refine ⟨_, rfl, ?_⟩; have n0_ := Aside0.mk (blk_below (lb BK189.out) hb); have n1_ := Aside0.mk (blk_below (lb BK204.out) hb); have n2_ := Aside0.mk (blk_below (lb BK207.out) hb); have n3_ := Aside0.mk (IsS47.below (lI47 HI190.out) hb); have n4_ := Aside0.mk (below_step (lB HB.out) hb); clear BK189 BK204 BK207 HI190 HB; have BK189 := n0_; have BK204 := n1_; have BK207 := n2_; have HI190 := n3_; have HB := n4_; clear n0_ n1_ n2_ n3_ n4_; (try clear hb); (try clear hb2); (try clear hk); (try clear hi)) | ((with_reducible refine gate_callee (f := 29) rfl ?_); refine goesL_ (some 38) rfl rfl Tryz.func29 (by kernel_rfl) rfl #[.pointer (some ⟨gb190, 0, none⟩), .int .i64 4] rfl lm ?_; (with_reducible refine (spec_l1Cur_pair.calls k1 gb190 l0 t202 t203 4 t218 t219 t220 t221 w _ ?side1 ?side2 A60.out).mono ?_); (case side1 => exact lI47 HI190.out); (case side2 => exact lB HB.out); rintro e w66 ⟨rfl, hi, hb, hk⟩; refine ⟨_, rfl, ?_⟩; have n0_ := Aside0.mk (KeepBut.blk hk (g' := gb189) (o := .cells #[.string (⟨#[]⟩ : ByteArray), .string (⟨#[]⟩ : ByteArray)] 25 (0, 0)) (lb BK189.out) NB189_190.out (by simp)); have n1_ := Aside0.mk (KeepBut.blk hk (g' := gb204) (o := .cells #[.string t200, .string t201] 25 (0, 0)) (lb BK204.out) NB204_190.out (by simp)); have n2_ := Aside0.mk (KeepBut.blk hk (g' := gb207) (o := .cells #[.string x208000_1, .string x208001_1] 25 (0, 0)) (lb BK207.out) NB207_190.out (by simp)); have n3_ := Aside0.mk (hb); have n4_ := Aside0.mk (hi); clear BK189 BK204 BK207 HB HI190; have BK189 := n0_; have BK204 := n1_; have BK207 := n2_; have HB := n3_; have HI190 := n4_; clear n0_ n1_ n2_ n3_ n4_; (try clear hb); (try clear hb2); (try clear hk); (try clear hi); have hnb67 := NB189_204.out; have hnc67 := NB204_189.out; have hnb68 := NB189_190.out; have hnc68 := NB190_189.out; have hcz69_0 : w66.cell? ⟨gb189, 0, none⟩ = some (.string (⟨#[]⟩ : ByteArray)) := (blk_cell BK189.out 0).trans rfl; have hcz69_1 : w66.cell? ⟨gb189, 1, none⟩ = some (.string (⟨#[]⟩ : ByteArray)) := (blk_cell BK189.out 1).trans rfl; have hfz69_0 := blk_frozen BK189.out 0; have hfz69_1 := blk_frozen BK189.out 1))
         refine bodyPost_ret (results_ct rfl _ _ gb189 25 #[.string t218, .string t219] (0, 0) _ rfl (by (with_reducible repeat (first | refine blk_drewN ?_ _ | refine blk_drew ?_ | refine blk_alloc ?_ _)); refine blk_put (cs := #[.string t218, .string (⟨#[]⟩ : ByteArray)]) ?_ 1 _ rfl; (with_reducible repeat (first | refine blk_drewN ?_ _ | refine blk_drew ?_ | refine blk_alloc ?_ _)); refine blk_put (cs := #[.string (⟨#[]⟩ : ByteArray), .string (⟨#[]⟩ : ByteArray)]) ?_ 0 _ rfl; exact lb BK189.out) Tryz.underlying25 rfl (by kernel_rfl)) rfl ?_
         exact ⟨lx, by exact lB HB.out⟩
def laws_nReduced.f (a0_0 : ByteArray) (a0_1 : ByteArray) : Option (ByteArray × ByteArray) := (impl_ReducePair.f a0_0 a0_1).bind fun bt226 => (some (bt226.1, bt226.2.1))
set_option maxHeartbeats 8000000 in
set_option maxRecDepth 100000 in
theorem laws_nReduced.calls (a0_0 : ByteArray) (a0_1 : ByteArray) (r1 : ByteArray) (r2 : ByteArray) (w : World) (h : laws_nReduced.f a0_0 a0_1 = some (r1, r2)) :
    Calls Tryz.prog 11 #[.agg #[.string a0_0, .string a0_1]] w fun e w' => e = .returned (.agg #[.string r1, .string r2]) ∧ Below w.heap.size w w' := by
  have hu25 := Tryz.underlying25
  have HB := Aside0.mk (Below.refl w.heap.size w)
  have H : ((impl_ReducePair.f a0_0 a0_1).bind fun bt226 => (some (bt226.1, bt226.2.1))) = some (r1, r2) := h
  clear h
  replace H := Option.bind_eq_some_iff.mp H
  obtain ⟨⟨t226, t227, t228⟩, A20, H⟩ := H
  replace H : (some (t226, t227)) = some (r1, r2) := H
  have A2 := Aside0.mk A20
  clear A20
  simp only [Option.some.injEq, Prod.mk.injEq] at H
  obtain ⟨rfl, rfl⟩ := H
  go_enter Tryz.func11, Tryz.ntmps11
  go_wp2_with (first | ((with_reducible refine gate_dst (N := 1) rfl ?_); refine box_event ?hg (N := 1) ?hd (cs := #[.string a0_0, .string a0_1]) (t := 25) ?hr ?_; (case hd => rfl); (case hg => rfl); (case hr => exact lr); intro gb224 hg w3 hbox hb; have n0_ := Aside0.mk (below_step (lB HB.out) hb); have n1_ := Aside0.mk (hbox); have n2_ := gw hg (lB HB.out); have n3_ := gw hg (lB HB.out); clear HB; have HB := n0_; have BK224 := n1_; have GW224 := n2_; have GE224 := n3_; clear n0_ n1_ n2_ n3_; clear hb hbox hg) | ((with_reducible refine gate_dst (N := 2) rfl ?_); refine box_event ?hg (N := 2) ?hd (cs := #[.string (⟨#[]⟩ : ByteArray), .string (⟨#[]⟩ : ByteArray)]) (t := 25) ?hr ?_; (case hd => rfl); (case hg => rfl); (case hr => exact lr); intro gb225 hg w4 hbox hb; have n0_ := Aside0.mk (blk_below (lb BK224.out) hb); have n1_ := Aside0.mk (below_step (lB HB.out) hb); have n2_ := Aside0.mk (hbox); have n3_ := gw hg (lB HB.out); have n4_ := gw hg (lB HB.out); have n5_ := na hg (lb BK224.out); have n6_ := nz hg (lb BK224.out); clear BK224 HB; have BK224 := n0_; have HB := n1_; have BK225 := n2_; have GW225 := n3_; have GE225 := n4_; have NB224_225 := n5_; have NB225_224 := n6_; clear n0_ n1_ n2_ n3_ n4_ n5_ n6_; clear hb hbox hg; have hnb5 := NB224_225.out; have hnc5 := NB225_224.out; have hcz6_0 : w4.cell? ⟨gb224, 0, none⟩ = some (.string a0_0) := (blk_cell BK224.out 0).trans rfl; have hcz6_1 : w4.cell? ⟨gb224, 1, none⟩ = some (.string a0_1) := (blk_cell BK224.out 1).trans rfl; have hfz6_0 := blk_frozen BK224.out 0; have hfz6_1 := blk_frozen BK224.out 1) | ((with_reducible refine gate_callee (f := 44) rfl ?_); refine goesL_ (some 7) rfl rfl Tryz.func44 (by kernel_rfl) rfl #[.agg #[.string a0_0, .string a0_1]] rfl lm ?_; (with_reducible refine (impl_ReducePair.calls a0_0 a0_1 t226 t227 t228 _ A2.out).mono ?_); rintro e w7 ⟨rfl, hb⟩; refine ⟨_, rfl, ?_⟩; have n0_ := Aside0.mk (blk_below (lb BK224.out) hb); have n1_ := Aside0.mk (blk_below (lb BK225.out) hb); have n2_ := Aside0.mk (below_step (lB HB.out) hb); clear BK224 BK225 HB; have BK224 := n0_; have BK225 := n1_; have HB := n2_; clear n0_ n1_ n2_; (try clear hb); (try clear hb2); (try clear hk); (try clear hi)) | ((with_reducible refine gate_dst (N := 3) rfl ?_); refine box_event ?hg (N := 3) ?hd (cs := #[.string (⟨#[]⟩ : ByteArray), .string (⟨#[]⟩ : ByteArray)]) (t := 25) ?hr ?_; (case hd => rfl); (case hg => rfl); (case hr => exact lr); intro gb229 hg w8 hbox hb; have n0_ := Aside0.mk (blk_below (lb BK224.out) hb); have n1_ := Aside0.mk (blk_below (lb BK225.out) hb); have n2_ := Aside0.mk (below_step (lB HB.out) hb); have n3_ := Aside0.mk (hbox); have n4_ := gw hg (lB HB.out); have n5_ := gw hg (lB HB.out); have n6_ := na hg (lb BK224.out); have n7_ := nz hg (lb BK224.out); have n8_ := na hg (lb BK225.out); have n9_ := nz hg (lb BK225.out); clear BK224 BK225 HB; have BK224 := n0_; have BK225 := n1_; have HB := n2_; have BK229 := n3_; have GW229 := n4_; have GE229 := n5_; have NB224_229 := n6_; have NB229_224 := n7_; have NB225_229 := n8_; have NB229_225 := n9_; clear n0_ n1_ n2_ n3_ n4_ n5_ n6_ n7_ n8_ n9_; clear hb hbox hg; have hnb9 := NB229_224.out; have hnc9 := NB224_229.out; have hnb10 := NB229_225.out; have hnc10 := NB225_229.out; have hcz11_0 : w8.cell? ⟨gb229, 0, none⟩ = some (.string (⟨#[]⟩ : ByteArray)) := (blk_cell BK229.out 0).trans rfl; have hcz11_1 : w8.cell? ⟨gb229, 1, none⟩ = some (.string (⟨#[]⟩ : ByteArray)) := (blk_cell BK229.out 1).trans rfl; have hfz11_0 := blk_frozen BK229.out 0; have hfz11_1 := blk_frozen BK229.out 1; have hcz12_0 : w8.cell? ⟨gb225, 0, none⟩ = some (.string (⟨#[]⟩ : ByteArray)) := (blk_cell BK225.out 0).trans rfl; have hcz12_1 : w8.cell? ⟨gb225, 1, none⟩ = some (.string (⟨#[]⟩ : ByteArray)) := (blk_cell BK225.out 1).trans rfl; have hfz12_0 := blk_frozen BK225.out 0; have hfz12_1 := blk_frozen BK225.out 1))
  refine bodyPost_ret (results_cell_row rfl _ _ gb225 25 #[.string t226, .string t227] (0, 0) _ rfl (by (with_reducible repeat (first | refine blk_drewN ?_ _ | refine blk_drew ?_ | refine blk_alloc ?_ _)); refine blk_put (cs := #[.string t226, .string (⟨#[]⟩ : ByteArray)]) ?_ 1 _ rfl; (with_reducible repeat (first | refine blk_drewN ?_ _ | refine blk_drew ?_ | refine blk_alloc ?_ _)); refine blk_put (cs := #[.string (⟨#[]⟩ : ByteArray), .string (⟨#[]⟩ : ByteArray)]) ?_ 0 _ rfl; (with_reducible repeat (first | refine blk_drewN ?_ _ | refine blk_drew ?_ | refine blk_alloc ?_ _)); refine blk_far ?_ NB225_229.out _; (with_reducible repeat (first | refine blk_drewN ?_ _ | refine blk_drew ?_ | refine blk_alloc ?_ _)); refine blk_far ?_ NB225_229.out _; exact lb BK225.out) Tryz.underlying25 rfl (by kernel_rfl)) rfl ?_
  exact ⟨lx, by exact lB HB.out⟩
def spec_DrawCommutingWith.f (k : Nat) (l0 : List Int) : Option (ByteArray × ByteArray × Int) := (spec_l1Cur_pair.f k l0 0 0 3).bind fun bt232 => ((spec_l1Cur_among.f l0 bt232.2.2.1 bt232.2.2.2 (([0, 1, 2, 3, 3, 4, (-1)] : List Int))).bind fun bt239 => (some (bt232.1, bt232.2.1, bt239.1)))
set_option maxHeartbeats 8000000 in
set_option maxRecDepth 100000 in
theorem spec_DrawCommutingWith.calls (k : Nat) (A0 : Option Addr) (c0 : Nat) (l0 : List Int) (r1 : ByteArray) (r2 : ByteArray) (r3 : Int) (w : World) (hr0 : Kd.C (Kd.int .u8) w A0 l0.length l0) (hc0 : l0.length ≤ c0) (h : spec_DrawCommutingWith.f k l0 = some (r1, r2, r3)) :
    Calls Tryz.prog 12 #[.slice A0 l0.length c0] w fun e w' => e = .returned (.tuple #[.agg #[.string r1, .string r2], .int .i64 r3]) ∧ Below w.heap.size w w' := by
  have hu25 := Tryz.underlying25
  have hu47 := Tryz.underlying47
  have HR0 := Aside0.mk hr0
  have HC0 := Aside0.mk hc0
  clear hr0 hc0
  have HB := Aside0.mk (Below.refl w.heap.size w)
  have H : ((spec_l1Cur_pair.f k l0 0 0 3).bind fun bt232 => ((spec_l1Cur_among.f l0 bt232.2.2.1 bt232.2.2.2 (([0, 1, 2, 3, 3, 4, (-1)] : List Int))).bind fun bt239 => (some (bt232.1, bt232.2.1, bt239.1)))) = some (r1, r2, r3) := h
  clear h
  replace H := Option.bind_eq_some_iff.mp H
  obtain ⟨⟨t232, t233, t234, t235⟩, A20, H⟩ := H
  replace H : ((spec_l1Cur_among.f l0 t234 t235 (([0, 1, 2, 3, 3, 4, (-1)] : List Int))).bind fun bt239 => (some (t232, t233, bt239.1))) = some (r1, r2, r3) := H
  have A2 := Aside0.mk A20
  clear A20
  obtain ⟨y236, hy236⟩ : ∃ y_ : List Int, y_ = (([0, 1, 2, 3, 3, 4, (-1)] : List Int)) := ⟨_, rfl⟩
  replace H : ((spec_l1Cur_among.f l0 t234 t235 y236).bind fun bt239 => (some (t232, t233, bt239.1))) = some (r1, r2, r3) := by first | (rw [hy236]; with_reducible exact H) | (have H2_ := (Option.bind_some _ _).symm.trans H; rw [hy236]; with_reducible exact H2_) | (have H2_ := (Option.bind_some _ _).symm.trans H; with_reducible exact H2_) | with_reducible exact H | (rw [hy236]; exact H) | exact H
  have Ny236 := Aside0.mk hy236
  clear hy236
  replace H := Option.bind_eq_some_iff.mp H
  obtain ⟨⟨t239, t240, t241⟩, A30, H⟩ := H
  replace H : (some (t232, t233, t239)) = some (r1, r2, r3) := H
  have A3 := Aside0.mk A30
  clear A30
  simp only [Option.some.injEq, Prod.mk.injEq] at H
  obtain ⟨rfl, rfl, rfl⟩ := H
  go_enter Tryz.func12, Tryz.ntmps12
  go_wp2_with (first | ((with_reducible refine gate_dst (N := 2) rfl ?_); refine box_event ?hg (N := 2) ?hd (cs := #[.string (⟨#[]⟩ : ByteArray), .string (⟨#[]⟩ : ByteArray)]) (t := 25) ?hr ?_; (case hd => rfl); (case hg => rfl); (case hr => exact lr); intro gb230 hg w4 hbox hb; have n0_ := Aside0.mk (below_step (lB HB.out) hb); have n1_ := Aside0.mk (hbox); have n2_ := gw hg (lB HB.out); have n3_ := gw hg (lB HB.out); clear HB; have HB := n0_; have BK230 := n1_; have GW230 := n2_; have GE230 := n3_; clear n0_ n1_ n2_ n3_; clear hb hbox hg) | ((with_reducible refine gate_dst (N := 7) rfl ?_); refine box_event ?hg (N := 7) ?hd (cs := #[.slice A0 l0.length c0, .int .i64 0, .int .u64 0]) (t := 47) ?hr ?_; (case hd => rfl); (case hg => rfl); (case hr => exact lr); intro gb231 hg w5 hbox hb; have n0_ := Aside0.mk (blk_below (lb BK230.out) hb); have n1_ := Aside0.mk (below_step (lB HB.out) hb); have n2_ := gw hg (lB HB.out); have n3_ := gw hg (lB HB.out); have n4_ := na hg (lb BK230.out); have n5_ := nz hg (lb BK230.out); have n6_ := Aside0.mk ((show IsS47 w w5 gb231 l0 0 0 from ⟨_, _, hbox, (by rw [hg]; exact (below_size (lB HB.out)) : w.heap.size ≤ gb231), HR0.out⟩)); clear BK230 HB; have BK230 := n0_; have HB := n1_; have GW231 := n2_; have GE231 := n3_; have NB230_231 := n4_; have NB231_230 := n5_; have HI231 := n6_; clear n0_ n1_ n2_ n3_ n4_ n5_ n6_; clear hb hbox hg) | ((with_reducible refine gate_callee (f := 29) rfl ?_); refine goesL_ (some 9) rfl rfl Tryz.func29 (by kernel_rfl) rfl #[.pointer (some ⟨gb231, 0, none⟩), .int .i64 3] rfl lm ?_; (with_reducible refine (spec_l1Cur_pair.calls k gb231 l0 0 0 3 t232 t233 t234 t235 w _ ?side1 ?side2 A2.out).mono ?_); (case side1 => exact lI47 HI231.out); (case side2 => exact lB HB.out); rintro e w6 ⟨rfl, hi, hb, hk⟩; refine ⟨_, rfl, ?_⟩; have n0_ := Aside0.mk (KeepBut.blk hk (g' := gb230) (o := .cells #[.string (⟨#[]⟩ : ByteArray), .string (⟨#[]⟩ : ByteArray)] 25 (0, 0)) (lb BK230.out) NB230_231.out (by simp)); have n1_ := Aside0.mk (hb); have n2_ := Aside0.mk (hi); clear BK230 HB HI231; have BK230 := n0_; have HB := n1_; have HI231 := n2_; clear n0_ n1_ n2_; (try clear hb); (try clear hb2); (try clear hk); (try clear hi)) | ((with_reducible refine gate_dst (N := 11) rfl ?_); refine Kd.R_lit (Kd.int .i64) _ 3 ?hg (N := 11) ?hd (xs := ([0, 1, 2, 3, 3, 4, (-1)] : List Int)) (inner := [.int .i64 0, .int .i64 1, .int .i64 2, .int .i64 3, .int .i64 3, .int .i64 4, .int .i64 (-1)]) (ok := fun _ => True) (okp := fun _ => True) ?hr ?hp (fun _ hk => hk) trivial (Below.refl _ _) (Nat.le_refl _) (by simp) ?_; (case hd => rfl); (case hg => rfl); (case hr => exact lr); (case hp => exact (Reps.one (show Kd.M (Kd.int .i64) _ _ _ 0 [.int .i64 0] from rfl) (Reps.one (show Kd.M (Kd.int .i64) _ _ _ 1 [.int .i64 1] from rfl) (Reps.one (show Kd.M (Kd.int .i64) _ _ _ 2 [.int .i64 2] from rfl) (Reps.one (show Kd.M (Kd.int .i64) _ _ _ 3 [.int .i64 3] from rfl) (Reps.one (show Kd.M (Kd.int .i64) _ _ _ 3 [.int .i64 3] from rfl) (Reps.one (show Kd.M (Kd.int .i64) _ _ _ 4 [.int .i64 4] from rfl) (Reps.one (show Kd.M (Kd.int .i64) _ _ _ (-1) [.int .i64 (-1)] from rfl) (Reps.none _ _))))))))); intro v237 w7 ho8 hb hg_ hnew_; clear hg_ hnew_; (first | rw [← Ny236.out] at ho8 | (simp only [Int.reduceToNat] at ho8; rw [← Ny236.out] at ho8)); have n0_ := Aside0.mk (Kd.R_lower ho8 (below_size (lB HB.out))); have n1_ := Aside0.mk (blk_below (lb BK230.out) hb); have n2_ := Aside0.mk (IsS47.below (lI47 HI231.out) hb); have n3_ := Aside0.mk (below_step (lB HB.out) hb); clear BK230 HI231 HB; have HO238 := n0_; have BK230 := n1_; have HI231 := n2_; have HB := n3_; clear n0_ n1_ n2_ n3_; clear hb ho8; obtain ⟨Ao9, co9, eo9⟩ := Kd.R_slice HO238.out; subst eo9) | ((with_reducible refine gate_callee (f := 22) rfl ?_); refine goesL_ (some 12) rfl rfl Tryz.func22 (by kernel_rfl) rfl #[.pointer (some ⟨gb231, 0, none⟩), .slice Ao9 y236.length co9] rfl lm ?_; (with_reducible refine (spec_l1Cur_among.calls gb231 l0 t234 t235 _ _ y236 t239 t240 t241 w _ ?side1 ?side2 ?side3 ?side4 ?side5 A3.out).mono ?_); (case side1 => exact lI47 HI231.out); (case side2 => exact lB HB.out); (case side3 => repeat (first | exact (Kd.R_reads' HO238.out).2.2 | (with_reducible refine Kd.C_alloc ?_ _) | (with_reducible refine Kd.C_drewN ?_ _) | (with_reducible refine Kd.C_drew ?_))); (case side4 => exact (Kd.R_reads' HO238.out).2.1); (case side5 => exact far_slice (IsS47.own_ne HI231.out HO238.out (by decide))); rintro e w10 ⟨rfl, hi, hb, hk⟩; refine ⟨_, rfl, ?_⟩; have n0_ := Aside0.mk (KeepBut.blk hk (g' := gb230) (o := .cells #[.string (⟨#[]⟩ : ByteArray), .string (⟨#[]⟩ : ByteArray)] 25 (0, 0)) (lb BK230.out) NB230_231.out (by simp)); have n1_ := Aside0.mk (Kd.R_mono (Kd.R_keep (IsS47.apart (show IsS47 w _ gb231 l0 t234 t235 from by exact lI47 HI231.out) (by (with_reducible repeat (first | apply Kd.R_alloc | apply Kd.R_drewN | apply Kd.R_drew)); exact HO238.out) (by decide)) hk (fun _ h => h.2)) (fun _ h => h.1)); have n2_ := Aside0.mk (hb); have n3_ := Aside0.mk (hi); clear BK230 HO238 HB HI231; have BK230 := n0_; have HO238 := n1_; have HB := n2_; have HI231 := n3_; clear n0_ n1_ n2_ n3_; (try clear hb); (try clear hb2); (try clear hk); (try clear hi); have hnb11 := NB230_231.out; have hnc11 := NB231_230.out; have hcz12_0 : w10.cell? ⟨gb230, 0, none⟩ = some (.string (⟨#[]⟩ : ByteArray)) := (blk_cell BK230.out 0).trans rfl; have hcz12_1 : w10.cell? ⟨gb230, 1, none⟩ = some (.string (⟨#[]⟩ : ByteArray)) := (blk_cell BK230.out 1).trans rfl; have hfz12_0 := blk_frozen BK230.out 0; have hfz12_1 := blk_frozen BK230.out 1))
  refine bodyPost_ret (results_ct rfl _ _ gb230 25 #[.string t232, .string t233] (0, 0) _ rfl (by (with_reducible repeat (first | refine blk_drewN ?_ _ | refine blk_drew ?_ | refine blk_alloc ?_ _)); refine blk_put (cs := #[.string t232, .string (⟨#[]⟩ : ByteArray)]) ?_ 1 _ rfl; (with_reducible repeat (first | refine blk_drewN ?_ _ | refine blk_drew ?_ | refine blk_alloc ?_ _)); refine blk_put (cs := #[.string (⟨#[]⟩ : ByteArray), .string (⟨#[]⟩ : ByteArray)]) ?_ 0 _ rfl; exact lb BK230.out) Tryz.underlying25 rfl (by kernel_rfl)) rfl ?_
  exact ⟨lx, by exact lB HB.out⟩
end Go.Proofs.YtdcipaaclpedhaaGreat.PA
namespace Go.Proofs.YtdcipaaclpedhaaGreat.PA
open Go.RowKit Go.Proofs.YtdcipaaclpedhaaGreatW.PrintWords
def Oct (l : List Int) : Prop := ∀ x ∈ l, 0 ≤ x ∧ x ≤ 255
def Lf (m : Nat) (a : Int) : Prop := 0 ≤ a ∧ a + m ≤ 4611686018427387904
theorem Lf.less {m n : Nat} {a : Int} (h : Lf m a) (hn : n ≤ m) : Lf n a := by unfold Lf at *; omega
theorem oct_of3 {l : List Int} (h : ∀ x ∈ l, (Lit.int .u8 x).wf = true) : Oct l := fun x hx => by
  have := h x hx
  simp [Lit.wf, IntKind.min, IntKind.max, IntKind.bits, IntKind.signed] at this
  omega
theorem w64 {x : Int} (h : -9223372036854775808 ≤ x ∧ x ≤ 9223372036854775807) : wrap64 x = x := by unfold wrap64; omega
theorem rd_oct {l : List Int} (hl : Oct l) (i : Int) (h0 : 0 ≤ i) (h1 : i < l.length) : 0 ≤ rd l i ∧ rd l i ≤ 255 := by
  unfold rd
  rw [List.getD_eq_getElem?_getD, List.getElem?_eq_getElem (by omega)]
  exact hl _ (List.getElem_mem _)
theorem u64_range (n : Int) : 0 ≤ IntKind.u64.wrap n ∧ IntKind.u64.wrap n < 18446744073709551616 := by
  simp [IntKind.wrap, IntKind.bits, IntKind.signed]; omega
theorem u64_in (n : Int) (h0 : 0 ≤ n) (h1 : n < 2 ^ 64) : IntKind.u64.wrap n = n := by
  simp [IntKind.wrap, IntKind.bits, IntKind.signed]; omega
theorem byte_of (n : Int) : 0 ≤ wrap64 (Go.bits .and .u64 (IntKind.u64.wrap n / 1099511627776) 255) ∧ wrap64 (Go.bits .and .u64 (IntKind.u64.wrap n / 1099511627776) 255) ≤ 255 := by
  obtain ⟨h0, h1⟩ := u64_range n
  generalize IntKind.u64.wrap n = x at *
  have h2 : 0 ≤ x / 1099511627776 := by omega
  have h3 : x / 1099511627776 < 2 ^ 64 := by omega
  have := bits_mask .u64 64 (by decide) u64_in 8 (by decide) (x / 1099511627776) h2 h3
  rw [show ((2 : Int) ^ 8 - 1) = 255 from rfl] at this
  rw [this, w64 (by omega)]
  omega
theorem next_tot {l : List Int} (hl : Oct l) {m : Nat} {a s : Int} (h : Lf (m + 1) a) : ∃ r s', spec_l1Cur_next.f l a s = some (r, a + 1, s') ∧ 0 ≤ r ∧ r ≤ 255 := by
  unfold Lf at h
  have hw : wrap64 (a + 1) = a + 1 := w64 (by omega)
  unfold spec_l1Cur_next.f
  by_cases h1 : a < (l.length : Int)
  · obtain ⟨b0, b1⟩ := rd_oct hl a h.1 h1
    rw [if_pos h1, if_pos h.1, hw]
    by_cases h2 : a + 1 ≤ (l.length : Int)
    · rw [if_pos h2, w64 (x := rd l a) (by omega)]
      exact ⟨_, _, rfl, b0, b1⟩
    · rw [if_neg h2]
      exact ⟨_, _, rfl, (byte_of _).1, (byte_of _).2⟩
  · rw [if_neg h1, hw]
    by_cases h2 : a + 1 ≤ (l.length : Int)
    · rw [if_pos h2]
      try simp only [Option.bind_some]
      exact ⟨_, _, rfl, by omega, by omega⟩
    · rw [if_neg h2]
      exact ⟨_, _, rfl, (byte_of _).1, (byte_of _).2⟩
theorem pick_tot {l : List Int} (hl : Oct l) {m : Nat} {a s : Int} (n : Int) (hn : n ≤ 1000000000) (h : Lf (m + 2) a) : ∃ r a' s', spec_l1Cur_pick.f l a s n = some (r, a', s') ∧ 0 ≤ r ∧ (1 ≤ n → r < n) ∧ Lf m a' := by
  unfold spec_l1Cur_pick.f
  by_cases h1 : n ≤ 1
  · rw [if_pos h1]
    exact ⟨0, a, s, rfl, by omega, fun _ => by omega, h.less (by omega)⟩
  · obtain ⟨r, s', e, r0, r1⟩ := next_tot hl (m := m + 1) (a := a) (s := s) h
    rw [if_neg h1, e]
    simp only [Option.bind_some]
    have h' : Lf (m + 1) (a + 1) := by unfold Lf at *; omega
    by_cases h2 : n > 200
    · obtain ⟨r2, s2, e2, r20, r21⟩ := next_tot hl (m := m) (s := s') h'
      rw [if_pos h2, e2]
      simp only [Option.bind_some]
      rw [if_neg (by omega), w64 (x := r * 256) (by omega), w64 (by omega)]
      have hm : Int.tmod (r * 256 + r2) n = (r * 256 + r2) % n := Int.tmod_eq_emod_of_nonneg (by omega)
      rw [hm]
      exact ⟨_, _, _, rfl, Int.emod_nonneg _ (by omega), fun _ => Int.emod_lt_of_pos _ (by omega), by unfold Lf at *; omega⟩
    · rw [if_neg h2, if_neg (by omega)]
      have hm : Int.tmod r n = r % n := Int.tmod_eq_emod_of_nonneg (by omega)
      rw [hm]
      exact ⟨_, _, _, rfl, Int.emod_nonneg _ (by omega), fun _ => Int.emod_lt_of_pos _ (by omega), by unfold Lf at *; omega⟩
theorem one_tot {l : List Int} (hl : Oct l) {m : Nat} {a s : Int} (n : Int) (hn : n ≤ 1000000000) (h : Lf (m + 2) a) : ∃ b a' s', spec_l1Cur_one.f l a s n = some (b, a', s') ∧ Lf m a' := by
  obtain ⟨r, a', s', e, _, _, h'⟩ := pick_tot hl n hn (a := a) (s := s) h
  unfold spec_l1Cur_one.f
  rw [e]
  exact ⟨_, _, _, rfl, h'⟩
theorem among_tot {l : List Int} (hl : Oct l) {m : Nat} {a s : Int} (xs : List Int) (h0 : 0 < xs.length) (hn : xs.length ≤ 1000) (h : Lf (m + 2) a) : ∃ x a' s', spec_l1Cur_among.f l a s xs = some (x, a', s') ∧ x ∈ xs ∧ Lf m a' := by
  obtain ⟨r, a', s', e, r0, r1, h'⟩ := pick_tot hl (xs.length : Int) (by omega) (a := a) (s := s) h
  have r2 := r1 (by omega)
  unfold spec_l1Cur_among.f
  rw [e]
  simp only [Option.bind_some]
  rw [if_pos r0, if_pos r2]
  refine ⟨_, _, _, rfl, ?_, h'⟩
  unfold rd
  rw [List.getD_eq_getElem?_getD, List.getElem?_eq_getElem (by omega)]
  exact List.getElem_mem _
theorem lit4 : (⟨#[40, 46, 46, 41]⟩ : ByteArray) = N.tx (.node .leaf .leaf) := rfl
theorem graft_tot (T : N.Tr) (i : Int) (h0 : 0 ≤ i) (h1 : i < T.carets + 1) (h2 : T.carets < 900) : ∃ T' : N.Tr, spec_trGraft.f (N.tx T) i (⟨#[40, 46, 46, 41]⟩ : ByteArray) = some (N.tx T') ∧ T'.carets = T.carets + 1 := by
  refine ⟨N.graft T i.toNat (.node .leaf .leaf), ?_, ?_⟩
  · rw [lit4]
    unfold spec_trGraft.f
    rw [N.parseT_tx, N.parseT_tx]
    exact if_pos ⟨h0, by omega, by omega, by decide⟩
  · exact N.grown_one _ _ T 0 (Nat.zero_le _) (by omega)
theorem sureTree_loop {l : List Int} (hl : Oct l) (n : Nat) (hn : n ≤ 800) : ∀ (d k : Nat) (m : Nat) (a s : Int) (T : N.Tr) (i : Nat), i + d = n → d < k → T.carets = i → Lf (m + 2 * d) a →
    ∃ (T' : N.Tr) (a' s' : Int), spec_l1Cur_sureTree.l0 k n (N.tx T) i l a s = some (N.tx T', a', s') ∧ T'.carets = n ∧ Lf m a' := by
  intro d
  induction d with
  | zero =>
    intro k m a s T i hi hk hT h
    obtain ⟨k, rfl⟩ : ∃ q, k = q + 1 := ⟨k - 1, by omega⟩
    exact ⟨T, a, s, by simp only [spec_l1Cur_sureTree.l0]; rw [if_neg (by omega)], by omega, h⟩
  | succ d ih =>
    intro k m a s T i hi hk hT h
    obtain ⟨k, rfl⟩ : ∃ q, k = q + 1 := ⟨k - 1, by omega⟩
    obtain ⟨r, a1, s1, e, r0, r1, h1⟩ := pick_tot hl (m := m + 2 * d) (a := a) (s := s) ((i : Int) + 1) (by omega) (by unfold Lf at *; omega)
    have r2 := r1 (by omega)
    obtain ⟨T1, e1, hT1⟩ := graft_tot T r r0 (by omega) (by omega)
    obtain ⟨T', a', s', e2, hT', h2⟩ := ih k m a1 s1 T1 (i + 1) (by omega) (by omega) (by omega) h1
    refine ⟨T', a', s', ?_, hT', h2⟩
    simp only [spec_l1Cur_sureTree.l0]
    rw [if_pos (by omega), w64 (by omega), e]
    simp only [Option.bind_some]
    rw [e1]
    simp only [Option.bind_some]
    rw [show ((i : Int) + 1) = ((i + 1 : Nat) : Int) by omega]
    exact e2
theorem sureTree_tot {l : List Int} (hl : Oct l) {m : Nat} {a s : Int} (n : Nat) (hn : n ≤ 800) (k : Nat) (hk : n < k) (h : Lf (m + 2 * n) a) : ∃ (T : N.Tr) (a' s' : Int), spec_l1Cur_sureTree.f k l a s n = some (N.tx T, a', s') ∧ T.carets = n ∧ Lf m a' :=
  sureTree_loop hl n hn n k m a s .leaf 0 (by omega) hk rfl h
theorem surePair_tot {l : List Int} (hl : Oct l) {m : Nat} {a s : Int} (n : Nat) (hn : n ≤ 800) (k : Nat) (hk : n < k) (h : Lf (m + 4 * n) a) : ∃ (T U : N.Tr) (a' s' : Int), spec_l1Cur_surePair.f k l a s n = some (N.tx T, N.tx U, a', s') ∧ T.carets = n ∧ U.carets = n ∧ Lf m a' := by
  obtain ⟨T, a1, s1, e1, hT, h1⟩ := sureTree_tot hl (m := m + 2 * n) (a := a) (s := s) n hn k hk (by unfold Lf at *; omega)
  obtain ⟨U, a2, s2, e2, hU, h2⟩ := sureTree_tot hl (m := m) (a := a1) (s := s1) n hn k hk h1
  unfold spec_l1Cur_surePair.f
  rw [e1]
  simp only [Option.bind_some]
  rw [e2]
  exact ⟨T, U, a2, s2, rfl, hT, hU, h2⟩
theorem str1 (b : Int) : (strOfNums [b]).size = 1 := by simp [strOfNums]; rfl
theorem ext_size (t : ByteArray) (i j : Nat) : (t.extract i j).size ≤ t.size := by simp [ByteArray.size_extract]; omega
theorem spoilt_loop {l : List Int} (hl : Oct l) (w : ByteArray) (hw : 0 < w.size) (hw2 : w.size ≤ 1000) : ∀ (d k m : Nat) (a s : Int) (t : ByteArray) (n : Int), 0 ≤ n → n.toNat = d → 2 * d + 1 < k → t.size + d ≤ 1000000 → Lf (m + 6 * d) a →
    ∃ (t' : ByteArray) (a' s' : Int), spec_l1Cur_spoilt.l0 k t w n l a s = some (t', a', s') ∧ t'.size ≤ t.size + d ∧ Lf m a' := by
  intro d
  induction d with
  | zero =>
    intro k m a s t n h0 hd hk ht h
    obtain ⟨k, rfl⟩ : ∃ q, k = q + 2 := ⟨k - 2, by omega⟩
    refine ⟨t, a, s, ?_, by omega, h⟩
    simp only [spec_l1Cur_spoilt.l0]
    rw [if_neg (by omega)]
    simp [spec_l1Cur_spoilt.j1]
  | succ d ih =>
    intro k m a s t n h0 hd hk ht h
    obtain ⟨k, rfl⟩ : ∃ q, k = q + 2 := ⟨k - 2, by omega⟩
    have hn : wrap64 (n - 1) = n - 1 := w64 (by omega)
    simp only [spec_l1Cur_spoilt.l0]
    rw [if_pos (by omega)]
    simp only [spec_l1Cur_spoilt.j1]
    by_cases hz : (t.size : Int) > 0
    · rw [decide_eq_true hz, if_pos rfl]
      obtain ⟨i, a1, s1, e1, i0, i1, h1⟩ := pick_tot hl (m := m + 6 * d + 4) (a := a) (s := s) (t.size : Int) (by omega) (by unfold Lf at *; omega)
      have i2 := i1 (by omega)
      obtain ⟨c, a2, s2, e2, c0, c1, h2⟩ := pick_tot hl (m := m + 6 * d + 2) (a := a1) (s := s1) (w.size : Int) (by omega) (by unfold Lf at *; omega)
      have c2 := c1 (by omega)
      obtain ⟨q, a3, s3, e3, q0, q1, h3⟩ := pick_tot hl (m := m + 6 * d) (a := a2) (s := s2) 3 (by omega) (by unfold Lf at *; omega)
      rw [e1]
      simp only [Option.bind_some]
      rw [e2]
      simp only [Option.bind_some]
      rw [if_pos c0, if_pos c2, e3]
      simp only [Option.bind_some]
      have x0 := ext_size t 0 i.toNat
      have xi : (t.extract i.toNat t.size).size + i.toNat ≤ t.size := by simp [ByteArray.size_extract]; omega
      have x00 : (t.extract 0 i.toNat).size ≤ i.toNat := by simp [ByteArray.size_extract]; omega
      have wi : wrap64 (i + 1) = i + 1 := w64 (by omega)
      have xj : (t.extract (i + 1).toNat t.size).size + i.toNat ≤ t.size := by simp [ByteArray.size_extract]; omega
      have s1_ := str1 (bt w c)
      by_cases q2 : q = 0
      · rw [if_pos q2, if_pos i0, if_pos (by omega), if_pos (by rw [s1_]; omega), if_pos (by rw [ByteArray.size_append, s1_]; omega), hn]
        have hs : (((t.extract 0 i.toNat) ++ strOfNums [bt w c]) ++ t.extract i.toNat t.size).size ≤ t.size + 1 := by rw [ByteArray.size_append, ByteArray.size_append, s1_]; omega
        obtain ⟨t', a', s', e4, ht', h4⟩ := ih k m a3 s3 (((t.extract 0 i.toNat) ++ strOfNums [bt w c]) ++ t.extract i.toNat t.size) (n - 1) (by omega) (by omega) (by omega) (by omega) h3
        exact ⟨t', a', s', e4, by omega, h4⟩
      · rw [if_neg q2]
        by_cases q3 : q = 1
        · rw [if_pos q3, if_pos i0, if_pos (by omega), if_pos (by rw [s1_]; omega), wi, if_pos (by omega), if_pos (by omega), if_pos (by rw [ByteArray.size_append, s1_]; omega), hn]
          have hs : (((t.extract 0 i.toNat) ++ strOfNums [bt w c]) ++ t.extract (i + 1).toNat t.size).size ≤ t.size + 1 := by rw [ByteArray.size_append, ByteArray.size_append, s1_]; omega
          obtain ⟨t', a', s', e4, ht', h4⟩ := ih k m a3 s3 (((t.extract 0 i.toNat) ++ strOfNums [bt w c]) ++ t.extract (i + 1).toNat t.size) (n - 1) (by omega) (by omega) (by omega) (by omega) h3
          exact ⟨t', a', s', e4, by omega, h4⟩
        · rw [if_neg q3, if_pos i0, if_pos (by omega), wi, if_pos (by omega), if_pos (by omega), if_pos (by omega), hn]
          have hs : ((t.extract 0 i.toNat) ++ t.extract (i + 1).toNat t.size).size ≤ t.size + 1 := by rw [ByteArray.size_append]; omega
          obtain ⟨t', a', s', e4, ht', h4⟩ := ih k m a3 s3 ((t.extract 0 i.toNat) ++ t.extract (i + 1).toNat t.size) (n - 1) (by omega) (by omega) (by omega) (by omega) h3
          exact ⟨t', a', s', e4, by omega, h4⟩
    · rw [decide_eq_false hz, if_neg (by decide)]
      exact ⟨t, a, s, rfl, by omega, h.less (by omega)⟩
theorem spoilt_tot {l : List Int} (hl : Oct l) {m : Nat} {a s : Int} (t w : ByteArray) (hw : 0 < w.size) (hw2 : w.size ≤ 1000) (ht : t.size ≤ 900000) (k : Nat) (hk : 5 < k) (h : Lf (m + 14) a) : ∃ (t' : ByteArray) (a' s' : Int), spec_l1Cur_spoilt.f k l a s t w = some (t', a', s') ∧ t'.size ≤ t.size + 2 ∧ Lf m a' := by
  obtain ⟨r, a1, s1, e1, r0, r1, h1⟩ := pick_tot hl (m := m + 12) (a := a) (s := s) 2 (by omega) (by unfold Lf at *; omega)
  have r2 := r1 (by omega)
  obtain ⟨t', a', s', e2, ht', h2⟩ := spoilt_loop hl w hw hw2 (1 + r).toNat k m a1 s1 t (1 + r) (by omega) rfl (by omega) (by omega) (by unfold Lf at *; omega)
  unfold spec_l1Cur_spoilt.f
  rw [e1]
  simp only [Option.bind_some]
  rw [w64 (by omega)]
  exact ⟨t', a', s', e2, by omega, h2⟩
theorem tx_size (T : N.Tr) : (N.tx T).size = 3 * T.carets + 1 := T.txt_length
theorem tree_tot {l : List Int} (hl : Oct l) {m : Nat} {a s : Int} (n : Nat) (hn : n ≤ 100) (k : Nat) (hk : 120 < k) (h : Lf (m + 2 * n + 40) a) : ∃ (t : ByteArray) (a' s' : Int), spec_l1Cur_tree.f k l a s n = some (t, a', s') ∧ t.size ≤ 400 ∧ Lf m a' := by
  unfold spec_l1Cur_tree.f
  obtain ⟨r, a1, s1, e1, r0, r1, h1⟩ := pick_tot hl (m := m + 2 * n + 38) (a := a) (s := s) ((n : Int) + 1) (by omega) (by unfold Lf at *; omega)
  have r2 := r1 (by omega)
  obtain ⟨q, rfl⟩ : ∃ q : Nat, r = q := ⟨r.toNat, by omega⟩
  obtain ⟨T, a2, s2, e2, hT, h2⟩ := sureTree_tot hl (m := m + 38) (a := a1) (s := s1) q (by omega) k (by omega) (by unfold Lf at *; omega)
  obtain ⟨u, a3, s3, e3, u0, u1, h3⟩ := pick_tot hl (m := m + 36) (a := a2) (s := s2) 14 (by omega) (by unfold Lf at *; omega)
  have zT := tx_size T
  rw [w64 (by omega), e1]
  simp only [Option.bind_some]
  rw [e2]
  simp only [Option.bind_some]
  rw [e3]
  simp only [Option.bind_some]
  by_cases z0 : u = 0
  · obtain ⟨t', a', s', e4, ht', h4⟩ := spoilt_tot hl (m := m) (a := a3) (s := s3) (N.tx T) (⟨#[40, 46, 41]⟩ : ByteArray) (by decide) (by decide) (by omega) k (by omega) (by unfold Lf at *; omega)
    rw [if_pos z0, e4]
    exact ⟨t', a', s', rfl, by omega, h4⟩
  · rw [if_neg z0]
    by_cases z1 : u = 1
    · obtain ⟨b, a4, s4, e4, b0, b1, h4⟩ := pick_tot hl (m := m + 34) (a := a3) (s := s3) 2 (by omega) (by unfold Lf at *; omega)
      have b2 := b1 (by omega)
      obtain ⟨c, rfl⟩ : ∃ c : Nat, b = c := ⟨b.toNat, by omega⟩
      obtain ⟨T2, a5, s5, e5, hT2, h5⟩ := sureTree_tot hl (m := m) (a := a4) (s := s4) (8 + c) (by omega) k (by omega) (by unfold Lf at *; omega)
      rw [if_pos z1, e4]
      simp only [Option.bind_some]
      rw [w64 (by omega), show (8 : Int) + (c : Int) = ((8 + c : Nat) : Int) by omega, e5]
      have := tx_size T2
      try simp only [Option.bind_some]
      exact ⟨_, a5, s5, rfl, by omega, h5⟩
    · rw [if_neg z1]
      try simp only [Option.bind_some]
      exact ⟨_, a3, s3, rfl, by omega, h3.less (by omega)⟩
theorem gen_some (i : Int) (h0 : 0 ≤ i) (h1 : i < 900) : ∃ T U : N.Tr, spec_prGenerator.f i = some (N.tx T, N.tx U) ∧ T.carets = i.toNat + 2 ∧ U.carets = i.toNat + 2 := by
  unfold spec_prGenerator.f
  rw [if_pos ⟨h0, h1⟩]
  exact ⟨_, _, rfl, (N.gen_carets _).1, (N.gen_carets _).2⟩
theorem pair_tot {l : List Int} (hl : Oct l) {m : Nat} {a s : Int} (n : Nat) (hn : n ≤ 100) (k : Nat) (hk : 120 < k) (h : Lf (m + 8 * n + 100) a) : ∃ (x y : ByteArray) (a' s' : Int), spec_l1Cur_pair.f k l a s n = some (x, y, a', s') ∧ x.size ≤ 400 ∧ y.size ≤ 400 ∧ Lf m a' := by
  unfold spec_l1Cur_pair.f
  obtain ⟨r, a1, s1, e1, r0, r1, h1⟩ := pick_tot hl (m := m + 8 * n + 98) (a := a) (s := s) ((n : Int) + 1) (by omega) (by unfold Lf at *; omega)
  have r2 := r1 (by omega)
  obtain ⟨q, rfl⟩ : ∃ q : Nat, r = q := ⟨r.toNat, by omega⟩
  obtain ⟨T, U, a2, s2, e2, hT, hU, h2⟩ := surePair_tot hl (m := m + 4 * n + 98) (a := a1) (s := s1) q (by omega) k (by omega) (by unfold Lf at *; omega)
  obtain ⟨u, a3, s3, e3, u0, u1, h3⟩ := pick_tot hl (m := m + 4 * n + 96) (a := a2) (s := s2) 14 (by omega) (by unfold Lf at *; omega)
  have zT := tx_size T
  have zU := tx_size U
  rw [w64 (by omega), e1]
  simp only [Option.bind_some]
  rw [e2]
  simp only [Option.bind_some]
  rw [e3]
  simp only [Option.bind_some]
  by_cases z0 : u = 0
  · obtain ⟨t', a', s', e4, ht', h4⟩ := tree_tot hl (m := m) (a := a3) (s := s3) n hn k hk (by unfold Lf at *; omega)
    rw [if_pos z0, e4]
    try simp only [Option.bind_some]
    exact ⟨_, _, a', s', rfl, by omega, ht', h4⟩
  · rw [if_neg z0]
    by_cases z1 : u = 1
    · obtain ⟨t', a', s', e4, ht', h4⟩ := spoilt_tot hl (m := m) (a := a3) (s := s3) (N.tx T) (⟨#[40, 46, 41]⟩ : ByteArray) (by decide) (by decide) (by omega) k (by omega) (by unfold Lf at *; omega)
      rw [if_pos z1, e4]
      try simp only [Option.bind_some]
      exact ⟨_, _, a', s', rfl, by omega, by omega, h4⟩
    · rw [if_neg z1]
      by_cases z2 : u = 2
      · obtain ⟨b, a4, s4, e4, b0, b1, h4⟩ := pick_tot hl (m := m + 94) (a := a3) (s := s3) 2 (by omega) (by unfold Lf at *; omega)
        have b2 := b1 (by omega)
        obtain ⟨c, rfl⟩ : ∃ c : Nat, b = c := ⟨b.toNat, by omega⟩
        obtain ⟨T2, U2, a5, s5, e5, hT2, hU2, h5⟩ := surePair_tot hl (m := m) (a := a4) (s := s4) (8 + c) (by omega) k (by omega) (by unfold Lf at *; omega)
        rw [if_pos z2, e4]
        simp only [Option.bind_some]
        rw [w64 (by omega), show (8 : Int) + (c : Int) = ((8 + c : Nat) : Int) by omega, e5]
        have := tx_size T2
        have := tx_size U2
        try simp only [Option.bind_some]
        exact ⟨_, _, a5, s5, rfl, by omega, by omega, h5⟩
      · rw [if_neg z2]
        by_cases z3 : u = 3
        · obtain ⟨b, a4, s4, e4, b0, b1, h4⟩ := pick_tot hl (m := m) (a := a3) (s := s3) 4 (by omega) (by unfold Lf at *; omega)
          have b2 := b1 (by omega)
          obtain ⟨T2, U2, e5, hT2, hU2⟩ := gen_some b b0 (by omega)
          rw [if_pos z3, e4]
          simp only [Option.bind_some]
          rw [e5]
          have := tx_size T2
          have := tx_size U2
          try simp only [Option.bind_some]
          exact ⟨_, _, a4, s4, rfl, by omega, by omega, h4⟩
        · rw [if_neg z3]
          try simp only [Option.bind_some]
          exact ⟨_, _, a3, s3, rfl, by omega, by omega, h3.less (by omega)⟩
end Go.Proofs.YtdcipaaclpedhaaGreat.PA
