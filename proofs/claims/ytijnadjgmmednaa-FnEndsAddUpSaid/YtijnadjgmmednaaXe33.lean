import Derived.Test.YtijnadjgmmednaaXe27
import Derived.Test.YtijnadjgmmednaaXe32
/- A part of the proof: lemmas that later parts use. -/
set_option linter.unusedVariables false
set_option linter.unusedSimpArgs false
namespace Go.Proofs.Ytijnadjgmmednaa.PA
open Go.RowKit Go.Proofs.YtijnadjgmmednaaW.PrintWords Go.Proofs.YtijnadjgmmednaaW.PrintLast Go.Proofs.YtijnadjgmmednaaW.PrintMore
attribute [local go_sem] max2_int min2_int max_two min_two max_three min_three max_four min_four
attribute [local go_sem high] eqA36
mutual
def laws_FnEndsAddUp.j0 : Nat → List Int → List Int → Option (Bool)
  | 0, _, _ => none
  | k + 1, x0, x1 => (spec_DrawEndSlopes.f k x1).bind fun bt568 => ((impl_EndSlopes.f bt568.1 bt568.2).bind fun bt571 => ((spec_EndSlopes.f bt568.1 bt568.2).bind fun bt574 => ((impl_IsInner.f bt568.1 bt568.2).bind fun bt577 => ((spec_IsInner.f bt568.1 bt568.2).bind fun bt579 => (if (bt571.2.2 != bt574.2.2) = true then (laws_FnEndsAddUp.j1 k x0 x1 true) else (if bt571.1 = bt574.1 then (if bt571.2.1 = bt574.2.1 then (if (bt577.2 != bt579.2) = true then (laws_FnEndsAddUp.j1 k x0 x1 true) else (if (bt577.1 != bt579.1) = true then (laws_FnEndsAddUp.j1 k x0 x1 true) else (if (bt577.2 != bt571.2.2) = true then (laws_FnEndsAddUp.j1 k x0 x1 true) else (if bt571.2.2 = true then (if bt571.1 = 0 then (laws_FnEndsAddUp.j1 k x0 x1 (bt577.1 != (bt571.2.1 == 0))) else (laws_FnEndsAddUp.j1 k x0 x1 (bt577.1 != false))) else (laws_FnEndsAddUp.j1 k x0 x1 false))))) else (laws_FnEndsAddUp.j1 k x0 x1 true)) else (laws_FnEndsAddUp.j1 k x0 x1 true)))))))
def laws_FnEndsAddUp.j1 : Nat → List Int → List Int → Bool → Option (Bool)
  | 0, _, _, _ => none
  | k + 1, x0, x1, x168 => if x168 = true then (some false) else ((spec_DrawSlopesBeside.f k x1).bind fun bt581 => ((impl_SlopesBeside.f bt581.1 bt581.2.1 bt581.2.2.1 bt581.2.2.2).bind fun bt587 => ((spec_SlopesBeside.f bt581.1 bt581.2.1 bt581.2.2.1 bt581.2.2.2).bind fun bt590 => ((spec_DrawOrbitOf.f k x0).bind fun bt593 => ((impl_OrbitOf.f bt593.1 bt593.2.1 bt593.2.2.1 bt593.2.2.2.1 bt593.2.2.2.2).bind fun bt600 => ((spec_OrbitOf.f bt593.1 bt593.2.1 bt593.2.2.1 bt593.2.2.2.1 bt593.2.2.2.2).bind fun bt604 => (if (bt587.2.2 != bt590.2.2) = true then (laws_FnEndsAddUp.j2 k bt593.2.2.2.2 bt600.1 bt600.2 true bt593.1 bt593.2.1 bt593.2.2.1 bt593.2.2.2.1) else (if bt587.1 = bt590.1 then (if bt587.2.1 = bt590.2.1 then (if (bt600.2 != bt604.2) = true then (laws_FnEndsAddUp.j2 k bt593.2.2.2.2 bt600.1 bt600.2 true bt593.1 bt593.2.1 bt593.2.2.1 bt593.2.2.2.1) else ((laws_fFractions.f k bt600.1 bt604.1).bind fun t608 => (laws_FnEndsAddUp.j2 k bt593.2.2.2.2 bt600.1 bt600.2 (!t608) bt593.1 bt593.2.1 bt593.2.2.1 bt593.2.2.2.1))) else (laws_FnEndsAddUp.j2 k bt593.2.2.2.2 bt600.1 bt600.2 true bt593.1 bt593.2.1 bt593.2.2.1 bt593.2.2.2.1)) else (laws_FnEndsAddUp.j2 k bt593.2.2.2.2 bt600.1 bt600.2 true bt593.1 bt593.2.1 bt593.2.2.1 bt593.2.2.2.1)))))))))
def laws_FnEndsAddUp.j2 : Nat → Int → List (S36) → Bool → Bool → ByteArray → ByteArray → Int → Int → Option (Bool)
  | 0, _, _, _, _, _, _, _, _ => none
  | k + 1, x39, x40, x41, x231, x599000, x599001, x600000, x600001 => if x231 = true then (some false) else (if x41 = true then (if (x40.length : Int) = (wrap64 (x39 + 1)) then (if 0 < (x40.length : Int) then (laws_FnEndsAddUp.j3 k x40 (!(((rd_T36 x40 0).f0) == x600000) || (!(((rd_T36 x40 0).f1) == x600001))) x599000 x599001) else (none)) else (laws_FnEndsAddUp.j3 k x40 true x599000 x599001)) else (some true))
def laws_FnEndsAddUp.j3 : Nat → List (S36) → Bool → ByteArray → ByteArray → Option (Bool)
  | 0, _, _, _, _ => none
  | k + 1, x40, x244, x599000, x599001 => if x244 = true then (some false) else (laws_FnEndsAddUp.l0 k x40 1 x599000 x599001)
def laws_FnEndsAddUp.l0 : Nat → List (S36) → Int → ByteArray → ByteArray → Option (Bool)
  | 0, _, _, _, _ => none
  | k + 1, x40, x44, x599000, x599001 => if x44 < (x40.length : Int) then (if 0 ≤ (wrap64 (x44 - 1)) then (if (wrap64 (x44 - 1)) < (x40.length : Int) then ((impl_ValueOf.f x599000 x599001 ((rd_T36 x40 (wrap64 (x44 - 1))).f0) ((rd_T36 x40 (wrap64 (x44 - 1))).f1)).bind fun bt611 => (if bt611.2.2 = true then (if 0 ≤ x44 then (if (!(bt611.1 == ((rd_T36 x40 x44).f0)) || (!(bt611.2.1 == ((rd_T36 x40 x44).f1)))) = true then (some false) else (if x44 > 1 then (if 0 ≤ (wrap64 (x44 - 2)) then (if (wrap64 (x44 - 2)) < (x40.length : Int) then ((laws_fLess.f ((rd_T36 x40 (wrap64 (x44 - 2))).f0) ((rd_T36 x40 (wrap64 (x44 - 2))).f1) ((rd_T36 x40 (wrap64 (x44 - 1))).f0) ((rd_T36 x40 (wrap64 (x44 - 1))).f1)).bind fun t618 => ((laws_fLess.f ((rd_T36 x40 (wrap64 (x44 - 1))).f0) ((rd_T36 x40 (wrap64 (x44 - 1))).f1) ((rd_T36 x40 x44).f0) ((rd_T36 x40 x44).f1)).bind fun t621 => (if (t618 != t621) = true then (some false) else (laws_FnEndsAddUp.l0 k x40 (wrap64 (x44 + 1)) x599000 x599001)))) else (none)) else (none)) else (laws_FnEndsAddUp.l0 k x40 (wrap64 (x44 + 1)) x599000 x599001))) else (none)) else (some false))) else (none)) else (none)) else (some true)
end
def laws_FnEndsAddUp.f (k : Nat) (l0 : List Int) (l1 : List Int) : Option (Bool) := (laws_big.f l0 l1).bind fun t548 => (if t548 = true then (some true) else ((spec_DrawProductPair.f k l0).bind fun bt549 => ((impl_ProductPair.f bt549.1 bt549.2.1 bt549.2.2.1 bt549.2.2.2).bind fun bt555 => ((impl_EndSlopes.f bt549.1 bt549.2.1).bind fun bt559 => ((impl_EndSlopes.f bt549.2.2.1 bt549.2.2.2).bind fun bt562 => (if bt555.2.2 = true then ((impl_EndSlopes.f bt555.1 bt555.2.1).bind fun bt565 => (if bt559.2.2 = true then (if bt562.2.2 = true then (if bt565.2.2 = true then (if bt565.1 = (wrap64 (bt559.1 + bt562.1)) then (if bt565.2.1 = (wrap64 (bt559.2.1 + bt562.2.1)) then (laws_FnEndsAddUp.j0 k l0 l1) else (some false)) else (some false)) else (some false)) else (some false)) else (some false))) else (laws_FnEndsAddUp.j0 k l0 l1)))))))
def laws_FnEndsAddUp.T27 : Bool × List (List Nat × List Nat) := (true, [([], []), ([0], [0]), ([], []), ([2], [2]), ([1, 3], [1, 3]), ([4], [4]), ([5], [5]), ([6, 5], [5, 6]), ([7, 5], [5, 7]), ([5], [5]), ([8, 9, 5], [5, 8, 9]), ([5, 10], [5, 10])])
def laws_FnEndsAddUp.B27 : List Nat := [0, 1, 0, 4, 15, 31, 63, 127, 255, 63, 1023, 2047]
theorem laws_FnEndsAddUp.tab27 : rtab .any (opsOf Try.f3 27) = laws_FnEndsAddUp.T27 := by kernel_rfl
theorem laws_FnEndsAddUp.bits27 : waitsOk laws_FnEndsAddUp.T27.2 laws_FnEndsAddUp.B27 = true := by kernel_rfl
def laws_FnEndsAddUp.T32 : Bool × List (List Nat × List Nat) := (true, [([], []), ([], []), ([], []), ([2], [2]), ([1, 3], [1, 3]), ([4], [4]), ([0, 5], [0, 5]), ([6], [6]), ([7], [7]), ([7], [7]), ([], []), ([10, 8, 6, 0, 1, 2, 3, 4, 5, 6, 7, 8, 10], [8, 10]), ([9, 11, 0, 1, 2, 3, 4, 5, 6, 7, 8, 9, 10, 11], [9])])
def laws_FnEndsAddUp.B32 : List Nat := [0, 0, 0, 4, 14, 30, 63, 127, 255, 255, 0, 1535, 4095]
theorem laws_FnEndsAddUp.tab32 : rtab .any (opsOf Try.f3 32) = laws_FnEndsAddUp.T32 := by kernel_rfl
theorem laws_FnEndsAddUp.bits32 : waitsOk laws_FnEndsAddUp.T32.2 laws_FnEndsAddUp.B32 = true := by kernel_rfl
def laws_FnEndsAddUp.T33 : Bool × List (List Nat × List Nat) := (true, [([], []), ([0], [0]), ([1], [1]), ([2], [2]), ([2], [2]), ([2], [2]), ([4, 5, 2], [2, 4, 5]), ([6, 2], [2, 6]), ([3, 7, 2], [2, 3, 7]), ([2, 8], [2, 8]), ([9, 2], [9]), ([10], [10]), ([11, 10], [10, 11]), ([12, 10, 10], [10, 12]), ([13], [13]), ([13], [13]), ([15, 13], [13, 15]), ([14, 16, 13], [13, 14, 16]), ([17, 13], [13, 17]), ([13], [13]), ([13], [13]), ([20, 13], [13, 20]), ([19, 21, 13], [13, 19, 21]), ([22, 13], [13, 22]), ([18, 23, 13, 13], [13, 18, 23]), ([13], [13]), ([13], [13]), ([26, 13], [13, 26]), ([25, 27, 13], [13, 25, 27]), ([28, 13], [13, 28]), ([13], [13]), ([13], [13]), ([30, 31, 13], [13, 30, 31]), ([32, 13], [13, 32]), ([29, 33, 24, 13], [13, 29, 33]), ([24, 34, 13], [13, 24, 34]), ([13, 35, 10], [10, 13, 35]), ([10, 36], [10, 36])])
def laws_FnEndsAddUp.B33 : List Nat := [0, 1, 3, 7, 7, 7, 55, 119, 255, 511, 1023, 2047, 4095, 8191, 16383, 16383, 49151, 131071, 262143, 16383, 16383, 1064959, 3686399, 7880703, 16777215, 16383, 16383, 67125247, 234897407, 503332863, 16383, 16383, 3221241855, 7516209151, 17179869183, 34359738367, 68719476735, 137438953471]
theorem laws_FnEndsAddUp.tab33 : rtab .any (opsOf Try.f3 33) = laws_FnEndsAddUp.T33 := by kernel_rfl
theorem laws_FnEndsAddUp.bits33 : waitsOk laws_FnEndsAddUp.T33.2 laws_FnEndsAddUp.B33 = true := by kernel_rfl
set_option maxHeartbeats 8000000 in
set_option maxRecDepth 100000 in
theorem laws_FnEndsAddUp.calls (k : Nat) (A0 : Option Addr) (c0 : Nat) (l0 : List Int) (A1 : Option Addr) (c1 : Nat) (l1 : List Int) (r : Bool) (w : World) (hr0 : Kd.C (Kd.int .u8) w A0 l0.length l0) (hc0 : l0.length ≤ c0) (hr1 : Kd.C (Kd.int .u8) w A1 l1.length l1) (hc1 : l1.length ≤ c1) (h : laws_FnEndsAddUp.f k l0 l1 = some r) (HRT : Aside0 (r = true)) :
    Calls Try.prog 3 #[.slice A0 l0.length c0, .slice A1 l1.length c1] w fun e w' => e = .returned (.bool r) ∧ Below w.heap.size w w' := by
  have hu25 := Try.underlying25
  have hu36 := Try.underlying36
  have HR0 := Aside0.mk hr0
  have HC0 := Aside0.mk hc0
  clear hr0 hc0
  have HR1 := Aside0.mk hr1
  have HC1 := Aside0.mk hc1
  clear hr1 hc1
  have HB := Aside0.mk (Below.refl w.heap.size w)
  have H : ((laws_big.f l0 l1).bind fun t548 => (if t548 = true then (some true) else ((spec_DrawProductPair.f k l0).bind fun bt549 => ((impl_ProductPair.f bt549.1 bt549.2.1 bt549.2.2.1 bt549.2.2.2).bind fun bt555 => ((impl_EndSlopes.f bt549.1 bt549.2.1).bind fun bt559 => ((impl_EndSlopes.f bt549.2.2.1 bt549.2.2.2).bind fun bt562 => (if bt555.2.2 = true then ((impl_EndSlopes.f bt555.1 bt555.2.1).bind fun bt565 => (if bt559.2.2 = true then (if bt562.2.2 = true then (if bt565.2.2 = true then (if bt565.1 = (wrap64 (bt559.1 + bt562.1)) then (if bt565.2.1 = (wrap64 (bt559.2.1 + bt562.2.1)) then (laws_FnEndsAddUp.j0 k l0 l1) else (some false)) else (some false)) else (some false)) else (some false)) else (some false))) else (laws_FnEndsAddUp.j0 k l0 l1)))))))) = some r := h
  clear h
  replace H := Option.bind_eq_some_iff.mp H
  obtain ⟨t548, A30, H⟩ := H
  (try dsimp only at H)
  have A3 := Aside0.mk A30
  clear A30
  by_cases c4 : t548 = true
  · subst c4
    rw [if_pos rfl] at H
    obtain rfl := Option.some.inj H
    go_enter Try.func3, Try.ntmps3
    go_wp2_with (first | ((with_reducible refine gate_callee (f := 8) rfl ?_); refine goesL_ (some 49) rfl rfl Try.func8 (by kernel_rfl) rfl #[.slice A0 l0.length c0, .slice A1 l1.length c1] rfl lm ?_; (with_reducible refine (laws_big.calls _ _ l0 _ _ l1 true _ ?side1 ?side2 ?side3 ?side4 A3.out).mono ?_); (case side1 => repeat (first | exact HR0.out | (with_reducible refine Kd.C_alloc ?_ _) | (with_reducible refine Kd.C_drewN ?_ _) | (with_reducible refine Kd.C_drew ?_))); (case side2 => exact HC0.out); (case side3 => repeat (first | exact HR1.out | (with_reducible refine Kd.C_alloc ?_ _) | (with_reducible refine Kd.C_drewN ?_ _) | (with_reducible refine Kd.C_drew ?_))); (case side4 => exact HC1.out); rintro e w' ⟨rfl, ⟨nd, rfl⟩⟩; refine ⟨_, rfl, ?_⟩))
    go_ret
    exact ⟨by first | rfl | (simp [errW_none, errW_some] <;> rfl) | (simp [*, errW_none, errW_some] <;> rfl), by exact lB HB.out⟩
  replace c4 := Bool.eq_false_iff.mpr c4
  subst c4
  rw [if_neg (show ¬ (false = true) by decide)] at H
  replace H := Option.bind_eq_some_iff.mp H
  obtain ⟨⟨t549, t550, t551, t552⟩, A50, H⟩ := H
  (try dsimp only at H)
  have A5 := Aside0.mk A50
  clear A50
  replace H := Option.bind_eq_some_iff.mp H
  obtain ⟨⟨t555, t556, t557⟩, A60, H⟩ := H
  (try dsimp only at H)
  have A6 := Aside0.mk A60
  clear A60
  replace H := Option.bind_eq_some_iff.mp H
  obtain ⟨⟨t559, t560, t561⟩, A70, H⟩ := H
  (try dsimp only at H)
  have A7 := Aside0.mk A70
  clear A70
  replace H := Option.bind_eq_some_iff.mp H
  obtain ⟨⟨t562, t563, t564⟩, A80, H⟩ := H
  (try dsimp only at H)
  have A8 := Aside0.mk A80
  clear A80
  have HC9 := Aside0.mk H
  clear H
  go_enter Try.func3, Try.ntmps3
  go_upto_if 73 with (first | ((with_reducible refine gate_callee (f := 8) rfl ?_); refine goesL_ (some 49) rfl rfl Try.func8 (by kernel_rfl) rfl #[.slice A0 l0.length c0, .slice A1 l1.length c1] rfl lm ?_; (with_reducible refine (laws_big.calls _ _ l0 _ _ l1 false _ ?side1 ?side2 ?side3 ?side4 A3.out).mono ?_); (case side1 => repeat (first | exact HR0.out | (with_reducible refine Kd.C_alloc ?_ _) | (with_reducible refine Kd.C_drewN ?_ _) | (with_reducible refine Kd.C_drew ?_))); (case side2 => exact HC0.out); (case side3 => repeat (first | exact HR1.out | (with_reducible refine Kd.C_alloc ?_ _) | (with_reducible refine Kd.C_drewN ?_ _) | (with_reducible refine Kd.C_drew ?_))); (case side4 => exact HC1.out); rintro e w' ⟨rfl, ⟨nd, rfl⟩⟩; refine ⟨_, rfl, ?_⟩) | ((with_reducible refine gate_callee (f := 9) rfl ?_); refine goesL_ (some 52) rfl rfl Try.func9 (by kernel_rfl) rfl #[.slice A0 l0.length c0] rfl lm ?_; (with_reducible refine (spec_DrawProductPair.calls k _ _ l0 t549 t550 t551 t552 _ ?side1 ?side2 A5.out).mono ?_); (case side1 => repeat (first | exact HR0.out | (with_reducible refine Kd.C_alloc ?_ _) | (with_reducible refine Kd.C_drewN ?_ _) | (with_reducible refine Kd.C_drew ?_))); (case side2 => exact HC0.out); rintro e w10 ⟨rfl, hb⟩; refine ⟨_, rfl, ?_⟩; have n0_ := Aside0.mk (below_step (lB HB.out) hb); clear HB; have HB := n0_; clear n0_; (try clear hb); (try clear hb2); (try clear hk); (try clear hi)) | ((with_reducible refine gate_dst (N := 5) rfl ?_); refine box_event ?hg (N := 5) ?hd (cs := #[.string (⟨#[]⟩ : ByteArray), .string (⟨#[]⟩ : ByteArray)]) (t := 25) ?hr ?_; (case hd => rfl); (case hg => rfl); (case hr => exact lr); intro gb553 hg w11 hbox hb; have n0_ := Aside0.mk (below_step (lB HB.out) hb); have n1_ := Aside0.mk (hbox); have n2_ := gw hg (lB HB.out); have n3_ := gw hg (lB HB.out); clear HB; have HB := n0_; have BK553 := n1_; have GW553 := n2_; have GE553 := n3_; clear n0_ n1_ n2_ n3_; clear hb hbox hg) | ((with_reducible refine gate_dst (N := 6) rfl ?_); refine box_event ?hg (N := 6) ?hd (cs := #[.string (⟨#[]⟩ : ByteArray), .string (⟨#[]⟩ : ByteArray)]) (t := 25) ?hr ?_; (case hd => rfl); (case hg => rfl); (case hr => exact lr); intro gb554 hg w12 hbox hb; have n0_ := Aside0.mk (blk_below (lb BK553.out) hb); have n1_ := Aside0.mk (below_step (lB HB.out) hb); have n2_ := Aside0.mk (hbox); have n3_ := gw hg (lB HB.out); have n4_ := gw hg (lB HB.out); have n5_ := na hg (lb BK553.out); have n6_ := nz hg (lb BK553.out); clear BK553 HB; have BK553 := n0_; have HB := n1_; have BK554 := n2_; have GW554 := n3_; have GE554 := n4_; have NB553_554 := n5_; have NB554_553 := n6_; clear n0_ n1_ n2_ n3_ n4_ n5_ n6_; clear hb hbox hg; have hnb13 := NB553_554.out; have hnc13 := NB554_553.out; have hcz14_0 : w12.cell? ⟨gb553, 0, none⟩ = some (.string (⟨#[]⟩ : ByteArray)) := (blk_cell BK553.out 0).trans rfl; have hcz14_1 : w12.cell? ⟨gb553, 1, none⟩ = some (.string (⟨#[]⟩ : ByteArray)) := (blk_cell BK553.out 1).trans rfl; have hfz14_0 := blk_frozen BK553.out 0; have hfz14_1 := blk_frozen BK553.out 1; have hcz15_0 : w12.cell? ⟨gb554, 0, none⟩ = some (.string (⟨#[]⟩ : ByteArray)) := (blk_cell BK554.out 0).trans rfl; have hcz15_1 : w12.cell? ⟨gb554, 1, none⟩ = some (.string (⟨#[]⟩ : ByteArray)) := (blk_cell BK554.out 1).trans rfl; have hfz15_0 := blk_frozen BK554.out 0; have hfz15_1 := blk_frozen BK554.out 1) | ((with_reducible refine gate_callee (f := 10) rfl ?_); refine goesL_ (some 58) rfl rfl Try.func10 (by kernel_rfl) rfl #[.agg #[.string t549, .string t550], .agg #[.string t551, .string t552]] rfl lm ?_; (with_reducible refine (impl_ProductPair.calls t549 t550 t551 t552 t555 t556 t557 _ A6.out).mono ?_); rintro e w16 ⟨rfl, hb⟩; refine ⟨_, rfl, ?_⟩; have n0_ := Aside0.mk (blk_below (g := gb553) (o := .cells #[.string t549, .string t550] 25 (0, 0)) (by (with_reducible repeat (first | refine blk_drewN ?_ _ | refine blk_drew ?_ | refine blk_alloc ?_ _)); refine blk_far ?_ NB553_554.out _; (with_reducible repeat (first | refine blk_drewN ?_ _ | refine blk_drew ?_ | refine blk_alloc ?_ _)); refine blk_far ?_ NB553_554.out _; (with_reducible repeat (first | refine blk_drewN ?_ _ | refine blk_drew ?_ | refine blk_alloc ?_ _)); refine blk_put (cs := #[.string t549, .string (⟨#[]⟩ : ByteArray)]) ?_ 1 _ rfl; (with_reducible repeat (first | refine blk_drewN ?_ _ | refine blk_drew ?_ | refine blk_alloc ?_ _)); refine blk_put (cs := #[.string (⟨#[]⟩ : ByteArray), .string (⟨#[]⟩ : ByteArray)]) ?_ 0 _ rfl; exact lb BK553.out) hb); have n1_ := Aside0.mk (blk_below (g := gb554) (o := .cells #[.string t551, .string t552] 25 (0, 0)) (by (with_reducible repeat (first | refine blk_drewN ?_ _ | refine blk_drew ?_ | refine blk_alloc ?_ _)); refine blk_put (cs := #[.string t551, .string (⟨#[]⟩ : ByteArray)]) ?_ 1 _ rfl; (with_reducible repeat (first | refine blk_drewN ?_ _ | refine blk_drew ?_ | refine blk_alloc ?_ _)); refine blk_put (cs := #[.string (⟨#[]⟩ : ByteArray), .string (⟨#[]⟩ : ByteArray)]) ?_ 0 _ rfl; (with_reducible repeat (first | refine blk_drewN ?_ _ | refine blk_drew ?_ | refine blk_alloc ?_ _)); refine blk_far ?_ NB554_553.out _; (with_reducible repeat (first | refine blk_drewN ?_ _ | refine blk_drew ?_ | refine blk_alloc ?_ _)); refine blk_far ?_ NB554_553.out _; exact lb BK554.out) hb); have n2_ := Aside0.mk (below_step (lB HB.out) hb); clear BK553 BK554 HB; have BK553 := n0_; have BK554 := n1_; have HB := n2_; clear n0_ n1_ n2_; (try clear hb); (try clear hb2); (try clear hk); (try clear hi)) | ((with_reducible refine gate_dst (N := 7) rfl ?_); refine box_event ?hg (N := 7) ?hd (cs := #[.string (⟨#[]⟩ : ByteArray), .string (⟨#[]⟩ : ByteArray)]) (t := 25) ?hr ?_; (case hd => rfl); (case hg => rfl); (case hr => exact lr); intro gb558 hg w17 hbox hb; have n0_ := Aside0.mk (blk_below (lb BK553.out) hb); have n1_ := Aside0.mk (blk_below (lb BK554.out) hb); have n2_ := Aside0.mk (below_step (lB HB.out) hb); have n3_ := Aside0.mk (hbox); have n4_ := gw hg (lB HB.out); have n5_ := gw hg (lB HB.out); have n6_ := na hg (lb BK553.out); have n7_ := nz hg (lb BK553.out); have n8_ := na hg (lb BK554.out); have n9_ := nz hg (lb BK554.out); clear BK553 BK554 HB; have BK553 := n0_; have BK554 := n1_; have HB := n2_; have BK558 := n3_; have GW558 := n4_; have GE558 := n5_; have NB553_558 := n6_; have NB558_553 := n7_; have NB554_558 := n8_; have NB558_554 := n9_; clear n0_ n1_ n2_ n3_ n4_ n5_ n6_ n7_ n8_ n9_; clear hb hbox hg; have hnb18 := NB558_553.out; have hnc18 := NB553_558.out; have hnb19 := NB558_554.out; have hnc19 := NB554_558.out; have hcz20_0 : w17.cell? ⟨gb558, 0, none⟩ = some (.string (⟨#[]⟩ : ByteArray)) := (blk_cell BK558.out 0).trans rfl; have hcz20_1 : w17.cell? ⟨gb558, 1, none⟩ = some (.string (⟨#[]⟩ : ByteArray)) := (blk_cell BK558.out 1).trans rfl; have hfz20_0 := blk_frozen BK558.out 0; have hfz20_1 := blk_frozen BK558.out 1; have hcz21_0 : w17.cell? ⟨gb553, 0, none⟩ = some (.string t549) := (blk_cell BK553.out 0).trans rfl; have hcz21_1 : w17.cell? ⟨gb553, 1, none⟩ = some (.string t550) := (blk_cell BK553.out 1).trans rfl; have hfz21_0 := blk_frozen BK553.out 0; have hfz21_1 := blk_frozen BK553.out 1) | ((with_reducible refine gate_callee (f := 11) rfl ?_); refine goesL_ (some 63) rfl rfl Try.func11 (by kernel_rfl) rfl #[.agg #[.string t549, .string t550]] rfl lm ?_; (with_reducible refine (impl_EndSlopes.calls t549 t550 t559 t560 t561 _ A7.out).mono ?_); rintro e w22 ⟨rfl, hb⟩; refine ⟨_, rfl, ?_⟩; have n0_ := Aside0.mk (blk_below (g := gb553) (o := .cells #[.string t549, .string t550] 25 (0, 0)) (by (with_reducible repeat (first | refine blk_drewN ?_ _ | refine blk_drew ?_ | refine blk_alloc ?_ _)); refine blk_far ?_ NB553_558.out _; (with_reducible repeat (first | refine blk_drewN ?_ _ | refine blk_drew ?_ | refine blk_alloc ?_ _)); refine blk_far ?_ NB553_558.out _; exact lb BK553.out) hb); have n1_ := Aside0.mk (blk_below (g := gb554) (o := .cells #[.string t551, .string t552] 25 (0, 0)) (by (with_reducible repeat (first | refine blk_drewN ?_ _ | refine blk_drew ?_ | refine blk_alloc ?_ _)); refine blk_far ?_ NB554_558.out _; (with_reducible repeat (first | refine blk_drewN ?_ _ | refine blk_drew ?_ | refine blk_alloc ?_ _)); refine blk_far ?_ NB554_558.out _; exact lb BK554.out) hb); have n2_ := Aside0.mk (blk_below (g := gb558) (o := .cells #[.string t555, .string t556] 25 (0, 0)) (by (with_reducible repeat (first | refine blk_drewN ?_ _ | refine blk_drew ?_ | refine blk_alloc ?_ _)); refine blk_put (cs := #[.string t555, .string (⟨#[]⟩ : ByteArray)]) ?_ 1 _ rfl; (with_reducible repeat (first | refine blk_drewN ?_ _ | refine blk_drew ?_ | refine blk_alloc ?_ _)); refine blk_put (cs := #[.string (⟨#[]⟩ : ByteArray), .string (⟨#[]⟩ : ByteArray)]) ?_ 0 _ rfl; exact lb BK558.out) hb); have n3_ := Aside0.mk (below_step (lB HB.out) hb); clear BK553 BK554 BK558 HB; have BK553 := n0_; have BK554 := n1_; have BK558 := n2_; have HB := n3_; clear n0_ n1_ n2_ n3_; (try clear hb); (try clear hb2); (try clear hk); (try clear hi); have hcz23_0 : w22.cell? ⟨gb554, 0, none⟩ = some (.string t551) := (blk_cell BK554.out 0).trans rfl; have hcz23_1 : w22.cell? ⟨gb554, 1, none⟩ = some (.string t552) := (blk_cell BK554.out 1).trans rfl; have hfz23_0 := blk_frozen BK554.out 0; have hfz23_1 := blk_frozen BK554.out 1) | ((with_reducible refine gate_callee (f := 11) rfl ?_); refine goesL_ (some 69) rfl rfl Try.func11 (by kernel_rfl) rfl #[.agg #[.string t551, .string t552]] rfl lm ?_; (with_reducible refine (impl_EndSlopes.calls t551 t552 t562 t563 t564 _ A8.out).mono ?_); rintro e w24 ⟨rfl, hb⟩; refine ⟨_, rfl, ?_⟩; have n0_ := Aside0.mk (blk_below (lb BK553.out) hb); have n1_ := Aside0.mk (blk_below (lb BK554.out) hb); have n2_ := Aside0.mk (blk_below (lb BK558.out) hb); have n3_ := Aside0.mk (below_step (lB HB.out) hb); clear BK553 BK554 BK558 HB; have BK553 := n0_; have BK554 := n1_; have BK558 := n2_; have HB := n3_; clear n0_ n1_ n2_ n3_; (try clear hb); (try clear hb2); (try clear hk); (try clear hi)))
  (try simp only [Act.put, List.setIfInBounds_toArray, List.set_cons_zero, List.set_cons_succ])
  go_cut [] (fun wc => ∃ (kq : Nat), Aside0 (laws_FnEndsAddUp.j0 kq l0 l1 = some r) ∧ Aside0 (kq ≤ k) ∧ Aside0 (Below w.heap.size w wc))
  case first =>
   as_aux_lemma =>
   have H := HC9.out
   clear HC9
   by_cases c25 : t557 = true
   rotate_left
   · replace c25 := Bool.eq_false_iff.mpr c25
     subst c25
     rw [if_neg (show ¬ (false = true) by decide)] at H
     have H' := Aside0.mk H
     clear H
     go_wp2
     go_meet
     case rel => exact ⟨_, H', ⟨by first | omega | exact Nat.le_refl _⟩, ⟨by exact lB HB.out⟩⟩
   subst c25
   rw [if_pos rfl] at H
   replace H := Option.bind_eq_some_iff.mp H
   obtain ⟨⟨t565, t566, t567⟩, A260, H⟩ := H
   (try dsimp only at H)
   have A26 := Aside0.mk A260
   clear A260
   by_cases c27 : t561 = true
   rotate_left
   · replace c27 := Bool.eq_false_iff.mpr c27
     subst c27
     rw [if_neg (show ¬ (false = true) by decide)] at H
     exact absurd ((Option.some.inj H).trans HRT.out) (by decide)
   subst c27
   rw [if_pos rfl] at H
   by_cases c28 : t564 = true
   rotate_left
   · replace c28 := Bool.eq_false_iff.mpr c28
     subst c28
     rw [if_neg (show ¬ (false = true) by decide)] at H
     exact absurd ((Option.some.inj H).trans HRT.out) (by decide)
   subst c28
   rw [if_pos rfl] at H
   by_cases c29 : t567 = true
   rotate_left
   · replace c29 := Bool.eq_false_iff.mpr c29
     subst c29
     rw [if_neg (show ¬ (false = true) by decide)] at H
     exact absurd ((Option.some.inj H).trans HRT.out) (by decide)
   subst c29
   rw [if_pos rfl] at H
   by_cases c30 : t565 = (wrap64 (t559 + t562))
   rotate_left
   · rw [if_neg c30] at H
     have c30b0 : (t565 == (wrap64 (t559 + t562))) = false := beq_eq_false_iff_ne.mpr c30
     have c30b1 : (t565 != (wrap64 (t559 + t562))) = true := bne_iff_ne.mpr c30
     (first | rw [c30b0] | (simp only [i64_w, i32_w]; rw [c30b0]) | skip)
     exact absurd ((Option.some.inj H).trans HRT.out) (by decide)
   rw [if_pos c30] at H
   have c30b0 : (t565 == (wrap64 (t559 + t562))) = true := beq_iff_eq.mpr c30
   have c30b1 : (t565 != (wrap64 (t559 + t562))) = false := bne_eq_false_iff_eq.mpr c30
   clear c30
   (first | rw [c30b0] | (simp only [i64_w, i32_w]; rw [c30b0]) | skip)
   by_cases c31 : t566 = (wrap64 (t560 + t563))
   rotate_left
   · rw [if_neg c31] at H
     have c31b0 : (t566 == (wrap64 (t560 + t563))) = false := beq_eq_false_iff_ne.mpr c31
     have c31b1 : (t566 != (wrap64 (t560 + t563))) = true := bne_iff_ne.mpr c31
     exact absurd ((Option.some.inj H).trans HRT.out) (by decide)
   rw [if_pos c31] at H
   have c31b0 : (t566 == (wrap64 (t560 + t563))) = true := beq_iff_eq.mpr c31
   have c31b1 : (t566 != (wrap64 (t560 + t563))) = false := bne_eq_false_iff_eq.mpr c31
   clear c31
   have H' := Aside0.mk H
   clear H
   have hnb32 := NB558_553.out
   have hnc32 := NB553_558.out
   have hnb33 := NB558_554.out
   have hnc33 := NB554_558.out
   have hcz34_0 : w24.cell? ⟨gb558, 0, none⟩ = some (.string t555) := (blk_cell BK558.out 0).trans rfl
   have hcz34_1 : w24.cell? ⟨gb558, 1, none⟩ = some (.string t556) := (blk_cell BK558.out 1).trans rfl
   have hfz34_0 := blk_frozen BK558.out 0
   have hfz34_1 := blk_frozen BK558.out 1
   go_wp2_with (first | ((with_reducible refine gate_callee (f := 11) rfl ?_); refine goesL_ (some 76) rfl rfl Try.func11 (by kernel_rfl) rfl #[.agg #[.string t555, .string t556]] rfl lm ?_; (with_reducible refine (impl_EndSlopes.calls t555 t556 t565 t566 true _ A26.out).mono ?_); rintro e w35 ⟨rfl, hb⟩; refine ⟨_, rfl, ?_⟩; have n0_ := Aside0.mk (blk_below (lb BK553.out) hb); have n1_ := Aside0.mk (blk_below (lb BK554.out) hb); have n2_ := Aside0.mk (blk_below (lb BK558.out) hb); have n3_ := Aside0.mk (below_step (lB HB.out) hb); clear BK553 BK554 BK558 HB; have BK553 := n0_; have BK554 := n1_; have BK558 := n2_; have HB := n3_; clear n0_ n1_ n2_ n3_; (try clear hb); (try clear hb2); (try clear hk); (try clear hi)))
   go_meet
   case rel => exact ⟨_, H', ⟨by first | omega | exact Nat.le_refl _⟩, ⟨by exact lB HB.out⟩⟩
  case rest =>
  as_aux_lemma =>
  clear HC9
  (try clear c1); (try clear c4); (try clear hcz14_0); (try clear hcz14_1); (try clear hcz15_0); (try clear hcz15_1); (try clear hcz20_0); (try clear hcz20_1); (try clear hcz21_0); (try clear hcz21_1); (try clear hcz23_0); (try clear hcz23_1); (try clear hfz14_0); (try clear hfz14_1); (try clear hfz15_0)
  (try clear hfz15_1); (try clear hfz20_0); (try clear hfz20_1); (try clear hfz21_0); (try clear hfz21_1); (try clear hfz23_0); (try clear hfz23_1)
  obtain ⟨kq, HA, HJ8, HB⟩ := hcut
  cases kq with
  | zero => exact absurd HA.out (by simp [laws_FnEndsAddUp.j0])
  | succ kj8 =>
   have H := HA.out
   clear HA
   simp only [laws_FnEndsAddUp.j0] at H
   replace H := Option.bind_eq_some_iff.mp H
   obtain ⟨⟨t568, t569⟩, A360, H⟩ := H
   (try dsimp only at H)
   have A36 := Aside0.mk A360
   clear A360
   replace H := Option.bind_eq_some_iff.mp H
   obtain ⟨⟨t571, t572, t573⟩, A370, H⟩ := H
   (try dsimp only at H)
   have A37 := Aside0.mk A370
   clear A370
   replace H := Option.bind_eq_some_iff.mp H
   obtain ⟨⟨t574, t575, t576⟩, A380, H⟩ := H
   (try dsimp only at H)
   have A38 := Aside0.mk A380
   clear A380
   replace H := Option.bind_eq_some_iff.mp H
   obtain ⟨⟨t577, t578⟩, A390, H⟩ := H
   (try dsimp only at H)
   have A39 := Aside0.mk A390
   clear A390
   replace H := Option.bind_eq_some_iff.mp H
   obtain ⟨⟨t579, t580⟩, A400, H⟩ := H
   (try dsimp only at H)
   have A40 := Aside0.mk A400
   clear A400
   have HC41 := Aside0.mk H
   clear H
   go_upto_region 16 with (first | ((with_reducible refine gate_callee (f := 12) rfl ?_); refine goesL_ (some 105) rfl rfl Try.func12 (by kernel_rfl) rfl #[.slice A1 l1.length c1] rfl lm ?_; (with_reducible refine (spec_DrawEndSlopes.calls kj8 _ _ l1 t568 t569 _ ?side1 ?side2 A36.out).mono ?_); (case side1 => repeat (first | exact (Kd.C_below HR1.out HB.out) | (with_reducible refine Kd.C_alloc ?_ _) | (with_reducible refine Kd.C_drewN ?_ _) | (with_reducible refine Kd.C_drew ?_))); (case side2 => exact HC1.out); rintro e w42 ⟨rfl, hb⟩; refine ⟨_, rfl, ?_⟩; have n0_ := Aside0.mk (below_step (lB HB.out) hb); clear HB; have HB := n0_; clear n0_; (try clear hb); (try clear hb2); (try clear hk); (try clear hi)) | ((with_reducible refine gate_dst (N := 18) rfl ?_); refine box_event ?hg (N := 18) ?hd (cs := #[.string (⟨#[]⟩ : ByteArray), .string (⟨#[]⟩ : ByteArray)]) (t := 25) ?hr ?_; (case hd => rfl); (case hg => rfl); (case hr => exact lr); intro gb570 hg w43 hbox hb; have n0_ := Aside0.mk (below_step (lB HB.out) hb); have n1_ := Aside0.mk (hbox); have n2_ := gw hg (lB HB.out); have n3_ := gw hg (lB HB.out); clear HB; have HB := n0_; have BK570 := n1_; have GW570 := n2_; have GE570 := n3_; clear n0_ n1_ n2_ n3_; clear hb hbox hg; have hcz44_0 : w43.cell? ⟨gb570, 0, none⟩ = some (.string (⟨#[]⟩ : ByteArray)) := (blk_cell BK570.out 0).trans rfl; have hcz44_1 : w43.cell? ⟨gb570, 1, none⟩ = some (.string (⟨#[]⟩ : ByteArray)) := (blk_cell BK570.out 1).trans rfl; have hfz44_0 := blk_frozen BK570.out 0; have hfz44_1 := blk_frozen BK570.out 1) | ((with_reducible refine gate_callee (f := 11) rfl ?_); refine goesL_ (some 108) rfl rfl Try.func11 (by kernel_rfl) rfl #[.agg #[.string t568, .string t569]] rfl lm ?_; (with_reducible refine (impl_EndSlopes.calls t568 t569 t571 t572 t573 _ A37.out).mono ?_); rintro e w45 ⟨rfl, hb⟩; refine ⟨_, rfl, ?_⟩; have n0_ := Aside0.mk (blk_below (g := gb570) (o := .cells #[.string t568, .string t569] 25 (0, 0)) (by (with_reducible repeat (first | refine blk_drewN ?_ _ | refine blk_drew ?_ | refine blk_alloc ?_ _)); refine blk_put (cs := #[.string t568, .string (⟨#[]⟩ : ByteArray)]) ?_ 1 _ rfl; (with_reducible repeat (first | refine blk_drewN ?_ _ | refine blk_drew ?_ | refine blk_alloc ?_ _)); refine blk_put (cs := #[.string (⟨#[]⟩ : ByteArray), .string (⟨#[]⟩ : ByteArray)]) ?_ 0 _ rfl; exact lb BK570.out) hb); have n1_ := Aside0.mk (below_step (lB HB.out) hb); clear BK570 HB; have BK570 := n0_; have HB := n1_; clear n0_ n1_; (try clear hb); (try clear hb2); (try clear hk); (try clear hi); have hcz46_0 : w45.cell? ⟨gb570, 0, none⟩ = some (.string t568) := (blk_cell BK570.out 0).trans rfl; have hcz46_1 : w45.cell? ⟨gb570, 1, none⟩ = some (.string t569) := (blk_cell BK570.out 1).trans rfl; have hfz46_0 := blk_frozen BK570.out 0; have hfz46_1 := blk_frozen BK570.out 1) | ((with_reducible refine gate_callee (f := 13) rfl ?_); refine goesL_ (some 114) rfl rfl Try.func13 (by kernel_rfl) rfl #[.agg #[.string t568, .string t569]] rfl lm ?_; (with_reducible refine (spec_EndSlopes.calls t568 t569 t574 t575 t576 _ A38.out).mono ?_); rintro e w47 ⟨rfl, hb⟩; refine ⟨_, rfl, ?_⟩; have n0_ := Aside0.mk (blk_below (lb BK570.out) hb); have n1_ := Aside0.mk (below_step (lB HB.out) hb); clear BK570 HB; have BK570 := n0_; have HB := n1_; clear n0_ n1_; (try clear hb); (try clear hb2); (try clear hk); (try clear hi); have hcz48_0 : w47.cell? ⟨gb570, 0, none⟩ = some (.string t568) := (blk_cell BK570.out 0).trans rfl; have hcz48_1 : w47.cell? ⟨gb570, 1, none⟩ = some (.string t569) := (blk_cell BK570.out 1).trans rfl; have hfz48_0 := blk_frozen BK570.out 0; have hfz48_1 := blk_frozen BK570.out 1) | ((with_reducible refine gate_callee (f := 14) rfl ?_); refine goesL_ (some 120) rfl rfl Try.func14 (by kernel_rfl) rfl #[.agg #[.string t568, .string t569]] rfl lm ?_; (with_reducible refine (impl_IsInner.calls t568 t569 t577 t578 _ A39.out).mono ?_); rintro e w49 ⟨rfl, hb⟩; refine ⟨_, rfl, ?_⟩; have n0_ := Aside0.mk (blk_below (lb BK570.out) hb); have n1_ := Aside0.mk (below_step (lB HB.out) hb); clear BK570 HB; have BK570 := n0_; have HB := n1_; clear n0_ n1_; (try clear hb); (try clear hb2); (try clear hk); (try clear hi); have hcz50_0 : w49.cell? ⟨gb570, 0, none⟩ = some (.string t568) := (blk_cell BK570.out 0).trans rfl; have hcz50_1 : w49.cell? ⟨gb570, 1, none⟩ = some (.string t569) := (blk_cell BK570.out 1).trans rfl; have hfz50_0 := blk_frozen BK570.out 0; have hfz50_1 := blk_frozen BK570.out 1) | ((with_reducible refine gate_callee (f := 15) rfl ?_); refine goesL_ (some 125) rfl rfl Try.func15 (by kernel_rfl) rfl #[.agg #[.string t568, .string t569]] rfl lm ?_; (with_reducible refine (spec_IsInner.calls t568 t569 t579 t580 _ A40.out).mono ?_); rintro e w51 ⟨rfl, hb⟩; refine ⟨_, rfl, ?_⟩; have n0_ := Aside0.mk (blk_below (lb BK570.out) hb); have n1_ := Aside0.mk (below_step (lB HB.out) hb); clear BK570 HB; have BK570 := n0_; have HB := n1_; clear n0_ n1_; (try clear hb); (try clear hb2); (try clear hk); (try clear hi)))
   (try simp only [Act.put, List.setIfInBounds_toArray, List.set_cons_zero, List.set_cons_succ])
   go_cut [168] (fun v168 wc => ∃ (kq : Nat) (x168_40 : Bool), v168 = .bool x168_40 ∧ Aside0 (laws_FnEndsAddUp.j1 kq l0 l1 x168_40 = some r) ∧ Aside0 (kq ≤ kj8) ∧ Aside0 (Below w.heap.size w wc))
   case first =>
    as_aux_lemma =>
    have H := HC41.out
    clear HC41
    by_cases c52 : (t573 != t576) = true
    · rw [if_pos c52] at H
      have c52b0 : (t573 != t576) = true := c52
      (try (have c52b1 : decide (t573 = t576) = false := by simpa using c52))
      (try (have c52b2 : (t573 == t576) = false := by simpa using c52))
      (try (have c52b3 : ¬ (t573 = t576) := by simpa using c52))
      clear c52
      (first | rw [c52b0] | (simp only [i64_w, i32_w]; rw [c52b0]) | skip)
      have H' := Aside0.mk H
      clear H
      go_wp2
      go_meet
      case rel => exact ⟨_, (true), (by first | rfl | (simp; done) | (simp [*]; done)), H', ⟨by have := HJ8.out; first | omega | exact Nat.le_refl _⟩, ⟨by exact lB HB.out⟩⟩
    rw [if_neg c52] at H
    have c52b0 : (t573 != t576) = false := by simpa using c52
    (try (have c52b1 : decide (t573 = t576) = true := by simpa using c52))
    (try (have c52b2 : (t573 == t576) = true := by simpa using c52))
    clear c52
    (first | rw [c52b0] | (simp only [i64_w, i32_w]; rw [c52b0]) | skip)
    by_cases c53 : t571 = t574
    rotate_left
    · rw [if_neg c53] at H
      have c53b0 : (t571 == t574) = false := beq_eq_false_iff_ne.mpr c53
      have c53b1 : (t571 != t574) = true := bne_iff_ne.mpr c53
      have H' := Aside0.mk H
      clear H
      go_wp2
      go_meet
      case rel => exact ⟨_, (true), (by first | rfl | (simp; done) | (simp [*]; done)), H', ⟨by have := HJ8.out; first | omega | exact Nat.le_refl _⟩, ⟨by exact lB HB.out⟩⟩
    rw [if_pos c53] at H
    have c53b0 : (t571 == t574) = true := beq_iff_eq.mpr c53
    have c53b1 : (t571 != t574) = false := bne_eq_false_iff_eq.mpr c53
    clear c53
    by_cases c54 : t572 = t575
    rotate_left
    · rw [if_neg c54] at H
      have c54b0 : (t572 == t575) = false := beq_eq_false_iff_ne.mpr c54
      have c54b1 : (t572 != t575) = true := bne_iff_ne.mpr c54
      have H' := Aside0.mk H
      clear H
      go_wp2
      go_meet
      case rel => exact ⟨_, (true), (by first | rfl | (simp; done) | (simp [*]; done)), H', ⟨by have := HJ8.out; first | omega | exact Nat.le_refl _⟩, ⟨by exact lB HB.out⟩⟩
    rw [if_pos c54] at H
    have c54b0 : (t572 == t575) = true := beq_iff_eq.mpr c54
    have c54b1 : (t572 != t575) = false := bne_eq_false_iff_eq.mpr c54
    clear c54
    by_cases c55 : (t578 != t580) = true
    · rw [if_pos c55] at H
      have c55b0 : (t578 != t580) = true := c55
      (try (have c55b1 : decide (t578 = t580) = false := by simpa using c55))
      (try (have c55b2 : (t578 == t580) = false := by simpa using c55))
      (try (have c55b3 : ¬ (t578 = t580) := by simpa using c55))
      clear c55
      have H' := Aside0.mk H
      clear H
      go_wp2
      go_meet
      case rel => exact ⟨_, (true), (by first | rfl | (simp; done) | (simp [*]; done)), H', ⟨by have := HJ8.out; first | omega | exact Nat.le_refl _⟩, ⟨by exact lB HB.out⟩⟩
    rw [if_neg c55] at H
    have c55b0 : (t578 != t580) = false := by simpa using c55
    (try (have c55b1 : decide (t578 = t580) = true := by simpa using c55))
    (try (have c55b2 : (t578 == t580) = true := by simpa using c55))
    clear c55
    by_cases c56 : (t577 != t579) = true
    · rw [if_pos c56] at H
      have c56b0 : (t577 != t579) = true := c56
      (try (have c56b1 : decide (t577 = t579) = false := by simpa using c56))
      (try (have c56b2 : (t577 == t579) = false := by simpa using c56))
      (try (have c56b3 : ¬ (t577 = t579) := by simpa using c56))
      clear c56
      have H' := Aside0.mk H
      clear H
      go_wp2
      go_meet
      case rel => exact ⟨_, (true), (by first | rfl | (simp; done) | (simp [*]; done)), H', ⟨by have := HJ8.out; first | omega | exact Nat.le_refl _⟩, ⟨by exact lB HB.out⟩⟩
    rw [if_neg c56] at H
    have c56b0 : (t577 != t579) = false := by simpa using c56
    (try (have c56b1 : decide (t577 = t579) = true := by simpa using c56))
    (try (have c56b2 : (t577 == t579) = true := by simpa using c56))
    clear c56
    by_cases c57 : (t578 != t573) = true
    · rw [if_pos c57] at H
      have c57b0 : (t578 != t573) = true := c57
      (try (have c57b1 : decide (t578 = t573) = false := by simpa using c57))
      (try (have c57b2 : (t578 == t573) = false := by simpa using c57))
      (try (have c57b3 : ¬ (t578 = t573) := by simpa using c57))
      clear c57
      have H' := Aside0.mk H
      clear H
      go_wp2
      go_meet
      case rel => exact ⟨_, (true), (by first | rfl | (simp; done) | (simp [*]; done)), H', ⟨by have := HJ8.out; first | omega | exact Nat.le_refl _⟩, ⟨by exact lB HB.out⟩⟩
    rw [if_neg c57] at H
    have c57b0 : (t578 != t573) = false := by simpa using c57
    (try (have c57b1 : decide (t578 = t573) = true := by simpa using c57))
    (try (have c57b2 : (t578 == t573) = true := by simpa using c57))
    clear c57
    by_cases c58 : t573 = true
    rotate_left
    · replace c58 := Bool.eq_false_iff.mpr c58
      subst c58
      rw [if_neg (show ¬ (false = true) by decide)] at H
      have H' := Aside0.mk H
      clear H
      go_wp2
      go_meet
      case rel => exact ⟨_, (false), (by first | rfl | (simp; done) | (simp [*]; done)), H', ⟨by have := HJ8.out; first | omega | exact Nat.le_refl _⟩, ⟨by exact lB HB.out⟩⟩
    subst c58
    rw [if_pos rfl] at H
    by_cases c59 : t571 = 0
    rotate_left
    · rw [if_neg c59] at H
      have c59b0 : (t571 == 0) = false := beq_eq_false_iff_ne.mpr c59
      have c59b1 : (t571 != 0) = true := bne_iff_ne.mpr c59
      have H' := Aside0.mk H
      clear H
      go_wp2
      go_meet
      case rel => exact ⟨_, ((t577 != false)), (by first | rfl | (simp; done) | (simp [*]; done)), H', ⟨by have := HJ8.out; first | omega | exact Nat.le_refl _⟩, ⟨by exact lB HB.out⟩⟩
    rw [if_pos c59] at H
    have c59b0 : (t571 == 0) = true := beq_iff_eq.mpr c59
    have c59b1 : (t571 != 0) = false := bne_eq_false_iff_eq.mpr c59
    clear c59
    have H' := Aside0.mk H
    clear H
    go_wp2
    go_meet
    case rel => exact ⟨_, ((t577 != (t572 == 0))), (by first | rfl | (simp; done) | (simp [*]; done)), H', ⟨by have := HJ8.out; first | omega | exact Nat.le_refl _⟩, ⟨by exact lB HB.out⟩⟩
   case rest =>
   as_aux_lemma =>
   clear HC41
   (try clear c1)
   (try clear hcz44_0); (try clear hcz44_1); (try clear hcz46_0); (try clear hcz46_1); (try clear hcz48_0); (try clear hcz48_1); (try clear hcz50_0); (try clear hcz50_1)
   (try clear hfz44_0); (try clear hfz44_1); (try clear hfz46_0); (try clear hfz46_1); (try clear hfz48_0); (try clear hfz48_1); (try clear hfz50_0); (try clear hfz50_1)
   obtain ⟨kq, x168_40, rfl, HA, HJ40, HB⟩ := hcut
   cases kq with
   | zero => exact absurd HA.out (by simp [laws_FnEndsAddUp.j1])
   | succ kj40 =>
    have H := HA.out
    clear HA
    simp only [laws_FnEndsAddUp.j1] at H
    by_cases c60 : x168_40 = true
    · subst c60
      rw [if_pos rfl] at H
      exact absurd ((Option.some.inj H).trans HRT.out) (by decide)
    replace c60 := Bool.eq_false_iff.mpr c60
    subst c60
    rw [if_neg (show ¬ (false = true) by decide)] at H
    replace H := Option.bind_eq_some_iff.mp H
    obtain ⟨⟨t581, t582, t583, t584⟩, A610, H⟩ := H
    (try dsimp only at H)
    have A61 := Aside0.mk A610
    clear A610
    replace H := Option.bind_eq_some_iff.mp H
    obtain ⟨⟨t587, t588, t589⟩, A620, H⟩ := H
    (try dsimp only at H)
    have A62 := Aside0.mk A620
    clear A620
    replace H := Option.bind_eq_some_iff.mp H
    obtain ⟨⟨t590, t591, t592⟩, A630, H⟩ := H
    (try dsimp only at H)
    have A63 := Aside0.mk A630
    clear A630
    replace H := Option.bind_eq_some_iff.mp H
    obtain ⟨⟨t593, t594, t595, t596, t597⟩, A640, H⟩ := H
    (try dsimp only at H)
    have A64 := Aside0.mk A640
    clear A640
    replace H := Option.bind_eq_some_iff.mp H
    obtain ⟨⟨t600, t603⟩, A650, H⟩ := H
    (try dsimp only at H)
    have A65 := Aside0.mk A650
    clear A650
    replace H := Option.bind_eq_some_iff.mp H
    obtain ⟨⟨t604, t607⟩, A660, H⟩ := H
    (try dsimp only at H)
    have A66 := Aside0.mk A660
    clear A660
    have HC67 := Aside0.mk H
    clear H
    go_upto_region 24 with (first | ((with_reducible refine gate_callee (f := 16) rfl ?_); refine goesL_ (some 171) rfl rfl Try.func16 (by kernel_rfl) rfl #[.slice A1 l1.length c1] rfl lm ?_; (with_reducible refine (spec_DrawSlopesBeside.calls kj40 _ _ l1 t581 t582 t583 t584 _ ?side1 ?side2 A61.out).mono ?_); (case side1 => repeat (first | exact (Kd.C_below HR1.out HB.out) | (with_reducible refine Kd.C_alloc ?_ _) | (with_reducible refine Kd.C_drewN ?_ _) | (with_reducible refine Kd.C_drew ?_))); (case side2 => exact HC1.out); rintro e w68 ⟨rfl, hb⟩; refine ⟨_, rfl, ?_⟩; have n0_ := Aside0.mk (below_step (lB HB.out) hb); clear HB; have HB := n0_; clear n0_; (try clear hb); (try clear hb2); (try clear hk); (try clear hi)) | ((with_reducible refine gate_dst (N := 29) rfl ?_); refine box_event ?hg (N := 29) ?hd (cs := #[.string (⟨#[]⟩ : ByteArray), .string (⟨#[]⟩ : ByteArray)]) (t := 25) ?hr ?_; (case hd => rfl); (case hg => rfl); (case hr => exact lr); intro gb585 hg w69 hbox hb; have n0_ := Aside0.mk (below_step (lB HB.out) hb); have n1_ := Aside0.mk (hbox); have n2_ := gw hg (lB HB.out); have n3_ := gw hg (lB HB.out); clear HB; have HB := n0_; have BK585 := n1_; have GW585 := n2_; have GE585 := n3_; clear n0_ n1_ n2_ n3_; clear hb hbox hg) | ((with_reducible refine gate_dst (N := 30) rfl ?_); refine box_event ?hg (N := 30) ?hd (cs := #[.int .i64 0, .int .i64 0]) (t := 36) ?hr ?_; (case hd => rfl); (case hg => rfl); (case hr => exact lr); intro gb586 hg w70 hbox hb; have n0_ := Aside0.mk (blk_below (lb BK585.out) hb); have n1_ := Aside0.mk (below_step (lB HB.out) hb); have n2_ := Aside0.mk (hbox); have n3_ := gw hg (lB HB.out); have n4_ := gw hg (lB HB.out); have n5_ := na hg (lb BK585.out); have n6_ := nz hg (lb BK585.out); clear BK585 HB; have BK585 := n0_; have HB := n1_; have BK586 := n2_; have GW586 := n3_; have GE586 := n4_; have NB585_586 := n5_; have NB586_585 := n6_; clear n0_ n1_ n2_ n3_ n4_ n5_ n6_; clear hb hbox hg; have hnb71 := NB585_586.out; have hnc71 := NB586_585.out; have hcz72_0 : w70.cell? ⟨gb585, 0, none⟩ = some (.string (⟨#[]⟩ : ByteArray)) := (blk_cell BK585.out 0).trans rfl; have hcz72_1 : w70.cell? ⟨gb585, 1, none⟩ = some (.string (⟨#[]⟩ : ByteArray)) := (blk_cell BK585.out 1).trans rfl; have hfz72_0 := blk_frozen BK585.out 0; have hfz72_1 := blk_frozen BK585.out 1; have hcz73_0 : w70.cell? ⟨gb586, 0, none⟩ = some (.int .i64 0) := (blk_cell BK586.out 0).trans rfl; have hcz73_1 : w70.cell? ⟨gb586, 1, none⟩ = some (.int .i64 0) := (blk_cell BK586.out 1).trans rfl; have hfz73_0 := blk_frozen BK586.out 0; have hfz73_1 := blk_frozen BK586.out 1) | ((with_reducible refine gate_callee (f := 17) rfl ?_); refine goesL_ (some 177) rfl rfl Try.func17 (by kernel_rfl) rfl #[.agg #[.string t581, .string t582], .agg #[.int .i64 t583, .int .i64 t584]] rfl lm ?_; (with_reducible refine (impl_SlopesBeside.calls t581 t582 t583 t584 t587 t588 t589 _ A62.out).mono ?_); rintro e w74 ⟨rfl, hb⟩; refine ⟨_, rfl, ?_⟩; have n0_ := Aside0.mk (blk_below (g := gb585) (o := .cells #[.string t581, .string t582] 25 (0, 0)) (by (with_reducible repeat (first | refine blk_drewN ?_ _ | refine blk_drew ?_ | refine blk_alloc ?_ _)); refine blk_far ?_ NB585_586.out _; (with_reducible repeat (first | refine blk_drewN ?_ _ | refine blk_drew ?_ | refine blk_alloc ?_ _)); refine blk_far ?_ NB585_586.out _; (with_reducible repeat (first | refine blk_drewN ?_ _ | refine blk_drew ?_ | refine blk_alloc ?_ _)); refine blk_put (cs := #[.string t581, .string (⟨#[]⟩ : ByteArray)]) ?_ 1 _ rfl; (with_reducible repeat (first | refine blk_drewN ?_ _ | refine blk_drew ?_ | refine blk_alloc ?_ _)); refine blk_put (cs := #[.string (⟨#[]⟩ : ByteArray), .string (⟨#[]⟩ : ByteArray)]) ?_ 0 _ rfl; exact lb BK585.out) hb); have n1_ := Aside0.mk (blk_below (g := gb586) (o := .cells #[.int .i64 t583, .int .i64 t584] 36 (0, 0)) (by (with_reducible repeat (first | refine blk_drewN ?_ _ | refine blk_drew ?_ | refine blk_alloc ?_ _)); refine blk_put (cs := #[.int .i64 t583, .int .i64 0]) ?_ 1 _ rfl; (with_reducible repeat (first | refine blk_drewN ?_ _ | refine blk_drew ?_ | refine blk_alloc ?_ _)); refine blk_put (cs := #[.int .i64 0, .int .i64 0]) ?_ 0 _ rfl; (with_reducible repeat (first | refine blk_drewN ?_ _ | refine blk_drew ?_ | refine blk_alloc ?_ _)); refine blk_far ?_ NB586_585.out _; (with_reducible repeat (first | refine blk_drewN ?_ _ | refine blk_drew ?_ | refine blk_alloc ?_ _)); refine blk_far ?_ NB586_585.out _; exact lb BK586.out) hb); have n2_ := Aside0.mk (below_step (lB HB.out) hb); clear BK585 BK586 HB; have BK585 := n0_; have BK586 := n1_; have HB := n2_; clear n0_ n1_ n2_; (try clear hb); (try clear hb2); (try clear hk); (try clear hi); have hcz75_0 : w74.cell? ⟨gb585, 0, none⟩ = some (.string t581) := (blk_cell BK585.out 0).trans rfl; have hcz75_1 : w74.cell? ⟨gb585, 1, none⟩ = some (.string t582) := (blk_cell BK585.out 1).trans rfl; have hfz75_0 := blk_frozen BK585.out 0; have hfz75_1 := blk_frozen BK585.out 1; have hcz76_0 : w74.cell? ⟨gb586, 0, none⟩ = some (.int .i64 t583) := (blk_cell BK586.out 0).trans rfl; have hcz76_1 : w74.cell? ⟨gb586, 1, none⟩ = some (.int .i64 t584) := (blk_cell BK586.out 1).trans rfl; have hfz76_0 := blk_frozen BK586.out 0; have hfz76_1 := blk_frozen BK586.out 1) | ((with_reducible refine gate_callee (f := 18) rfl ?_); refine goesL_ (some 184) rfl rfl Try.func18 (by kernel_rfl) rfl #[.agg #[.string t581, .string t582], .agg #[.int .i64 t583, .int .i64 t584]] rfl lm ?_; (with_reducible refine (spec_SlopesBeside.calls t581 t582 t583 t584 t590 t591 t592 _ A63.out).mono ?_); rintro e w77 ⟨rfl, hb⟩; refine ⟨_, rfl, ?_⟩; have n0_ := Aside0.mk (blk_below (lb BK585.out) hb); have n1_ := Aside0.mk (blk_below (lb BK586.out) hb); have n2_ := Aside0.mk (below_step (lB HB.out) hb); clear BK585 BK586 HB; have BK585 := n0_; have BK586 := n1_; have HB := n2_; clear n0_ n1_ n2_; (try clear hb); (try clear hb2); (try clear hk); (try clear hi)) | ((with_reducible refine gate_callee (f := 19) rfl ?_); refine goesL_ (some 190) rfl rfl Try.func19 (by kernel_rfl) rfl #[.slice A0 l0.length c0] rfl lm ?_; (with_reducible refine (spec_DrawOrbitOf.calls kj40 _ _ l0 t593 t594 t595 t596 t597 _ ?side1 ?side2 A64.out).mono ?_); (case side1 => repeat (first | exact (Kd.C_below HR0.out HB.out) | (with_reducible refine Kd.C_alloc ?_ _) | (with_reducible refine Kd.C_drewN ?_ _) | (with_reducible refine Kd.C_drew ?_))); (case side2 => exact HC0.out); rintro e w78 ⟨rfl, hb⟩; refine ⟨_, rfl, ?_⟩; have n0_ := Aside0.mk (blk_below (lb BK585.out) hb); have n1_ := Aside0.mk (blk_below (lb BK586.out) hb); have n2_ := Aside0.mk (below_step (lB HB.out) hb); clear BK585 BK586 HB; have BK585 := n0_; have BK586 := n1_; have HB := n2_; clear n0_ n1_ n2_; (try clear hb); (try clear hb2); (try clear hk); (try clear hi)) | ((with_reducible refine gate_dst (N := 37) rfl ?_); refine box_event ?hg (N := 37) ?hd (cs := #[.string (⟨#[]⟩ : ByteArray), .string (⟨#[]⟩ : ByteArray)]) (t := 25) ?hr ?_; (case hd => rfl); (case hg => rfl); (case hr => exact lr); intro gb598 hg w79 hbox hb; have n0_ := Aside0.mk (blk_below (lb BK585.out) hb); have n1_ := Aside0.mk (blk_below (lb BK586.out) hb); have n2_ := Aside0.mk (below_step (lB HB.out) hb); have n3_ := Aside0.mk (hbox); have n4_ := gw hg (lB HB.out); have n5_ := gw hg (lB HB.out); have n6_ := na hg (lb BK585.out); have n7_ := nz hg (lb BK585.out); have n8_ := na hg (lb BK586.out); have n9_ := nz hg (lb BK586.out); clear BK585 BK586 HB; have BK585 := n0_; have BK586 := n1_; have HB := n2_; have BK598 := n3_; have GW598 := n4_; have GE598 := n5_; have NB585_598 := n6_; have NB598_585 := n7_; have NB586_598 := n8_; have NB598_586 := n9_; clear n0_ n1_ n2_ n3_ n4_ n5_ n6_ n7_ n8_ n9_; clear hb hbox hg) | ((with_reducible refine gate_dst (N := 38) rfl ?_); refine box_event ?hg (N := 38) ?hd (cs := #[.int .i64 0, .int .i64 0]) (t := 36) ?hr ?_; (case hd => rfl); (case hg => rfl); (case hr => exact lr); intro gb599 hg w80 hbox hb; have n0_ := Aside0.mk (blk_below (lb BK585.out) hb); have n1_ := Aside0.mk (blk_below (lb BK586.out) hb); have n2_ := Aside0.mk (blk_below (lb BK598.out) hb); have n3_ := Aside0.mk (below_step (lB HB.out) hb); have n4_ := Aside0.mk (hbox); have n5_ := gw hg (lB HB.out); have n6_ := gw hg (lB HB.out); have n7_ := na hg (lb BK585.out); have n8_ := nz hg (lb BK585.out); have n9_ := na hg (lb BK586.out); have n10_ := nz hg (lb BK586.out); have n11_ := na hg (lb BK598.out); have n12_ := nz hg (lb BK598.out); clear BK585 BK586 BK598 HB; have BK585 := n0_; have BK586 := n1_; have BK598 := n2_; have HB := n3_; have BK599 := n4_; have GW599 := n5_; have GE599 := n6_; have NB585_599 := n7_; have NB599_585 := n8_; have NB586_599 := n9_; have NB599_586 := n10_; have NB598_599 := n11_; have NB599_598 := n12_; clear n0_ n1_ n2_ n3_ n4_ n5_ n6_ n7_ n8_ n9_ n10_ n11_ n12_; clear hb hbox hg; have hnb81 := NB598_585.out; have hnc81 := NB585_598.out; have hnb82 := NB598_586.out; have hnc82 := NB586_598.out; have hnb83 := NB598_599.out; have hnc83 := NB599_598.out; have hcz84_0 : w80.cell? ⟨gb598, 0, none⟩ = some (.string (⟨#[]⟩ : ByteArray)) := (blk_cell BK598.out 0).trans rfl; have hcz84_1 : w80.cell? ⟨gb598, 1, none⟩ = some (.string (⟨#[]⟩ : ByteArray)) := (blk_cell BK598.out 1).trans rfl; have hfz84_0 := blk_frozen BK598.out 0; have hfz84_1 := blk_frozen BK598.out 1; have hnb85 := NB599_585.out; have hnc85 := NB585_599.out; have hnb86 := NB599_586.out; have hnc86 := NB586_599.out; have hcz87_0 : w80.cell? ⟨gb599, 0, none⟩ = some (.int .i64 0) := (blk_cell BK599.out 0).trans rfl; have hcz87_1 : w80.cell? ⟨gb599, 1, none⟩ = some (.int .i64 0) := (blk_cell BK599.out 1).trans rfl; have hfz87_0 := blk_frozen BK599.out 0; have hfz87_1 := blk_frozen BK599.out 1) | ((with_reducible refine gate_callee (f := 20) rfl ?_); refine goesL_ (some 198) rfl rfl Try.func20 (by kernel_rfl) rfl #[.agg #[.string t593, .string t594], .agg #[.int .i64 t595, .int .i64 t596], .int .i64 t597] rfl lm ?_; (with_reducible refine (impl_OrbitOf.calls t593 t594 t595 t596 t597 t600 t603 _ A65.out).mono ?_); rintro e w88 ⟨v601, rfl, ho0, hb⟩; refine ⟨_, rfl, ?_⟩; have n0_ := Aside0.mk (Kd.R_lower (Kd.R_newB (Kd.R_newB ho0 (g := gb586) (o := .cells #[.int .i64 t583, .int .i64 t584] 36 (0, 0)) (by (with_reducible repeat (first | refine blk_drewN ?_ _ | refine blk_drew ?_ | refine blk_alloc ?_ _)); refine blk_far ?_ NB586_599.out _; (with_reducible repeat (first | refine blk_drewN ?_ _ | refine blk_drew ?_ | refine blk_alloc ?_ _)); refine blk_far ?_ NB586_599.out _; (with_reducible repeat (first | refine blk_drewN ?_ _ | refine blk_drew ?_ | refine blk_alloc ?_ _)); refine blk_far ?_ NB586_598.out _; (with_reducible repeat (first | refine blk_drewN ?_ _ | refine blk_drew ?_ | refine blk_alloc ?_ _)); refine blk_far ?_ NB586_598.out _; exact lb BK586.out)) (g := gb599) (o := .cells #[.int .i64 t595, .int .i64 t596] 36 (0, 0)) (by (with_reducible repeat (first | refine blk_drewN ?_ _ | refine blk_drew ?_ | refine blk_alloc ?_ _)); refine blk_put (cs := #[.int .i64 t595, .int .i64 0]) ?_ 1 _ rfl; (with_reducible repeat (first | refine blk_drewN ?_ _ | refine blk_drew ?_ | refine blk_alloc ?_ _)); refine blk_put (cs := #[.int .i64 0, .int .i64 0]) ?_ 0 _ rfl; (with_reducible repeat (first | refine blk_drewN ?_ _ | refine blk_drew ?_ | refine blk_alloc ?_ _)); refine blk_far ?_ NB599_598.out _; (with_reducible repeat (first | refine blk_drewN ?_ _ | refine blk_drew ?_ | refine blk_alloc ?_ _)); refine blk_far ?_ NB599_598.out _; exact lb BK599.out)) (below_size (lB HB.out))); have n1_ := Aside0.mk (blk_below (g := gb585) (o := .cells #[.string t581, .string t582] 25 (0, 0)) (by (with_reducible repeat (first | refine blk_drewN ?_ _ | refine blk_drew ?_ | refine blk_alloc ?_ _)); refine blk_far ?_ NB585_599.out _; (with_reducible repeat (first | refine blk_drewN ?_ _ | refine blk_drew ?_ | refine blk_alloc ?_ _)); refine blk_far ?_ NB585_599.out _; (with_reducible repeat (first | refine blk_drewN ?_ _ | refine blk_drew ?_ | refine blk_alloc ?_ _)); refine blk_far ?_ NB585_598.out _; (with_reducible repeat (first | refine blk_drewN ?_ _ | refine blk_drew ?_ | refine blk_alloc ?_ _)); refine blk_far ?_ NB585_598.out _; exact lb BK585.out) hb); have n2_ := Aside0.mk (blk_below (g := gb586) (o := .cells #[.int .i64 t583, .int .i64 t584] 36 (0, 0)) (by (with_reducible repeat (first | refine blk_drewN ?_ _ | refine blk_drew ?_ | refine blk_alloc ?_ _)); refine blk_far ?_ NB586_599.out _; (with_reducible repeat (first | refine blk_drewN ?_ _ | refine blk_drew ?_ | refine blk_alloc ?_ _)); refine blk_far ?_ NB586_599.out _; (with_reducible repeat (first | refine blk_drewN ?_ _ | refine blk_drew ?_ | refine blk_alloc ?_ _)); refine blk_far ?_ NB586_598.out _; (with_reducible repeat (first | refine blk_drewN ?_ _ | refine blk_drew ?_ | refine blk_alloc ?_ _)); refine blk_far ?_ NB586_598.out _; exact lb BK586.out) hb); have n3_ := Aside0.mk (blk_below (g := gb598) (o := .cells #[.string t593, .string t594] 25 (0, 0)) (by (with_reducible repeat (first | refine blk_drewN ?_ _ | refine blk_drew ?_ | refine blk_alloc ?_ _)); refine blk_far ?_ NB598_599.out _; (with_reducible repeat (first | refine blk_drewN ?_ _ | refine blk_drew ?_ | refine blk_alloc ?_ _)); refine blk_far ?_ NB598_599.out _; (with_reducible repeat (first | refine blk_drewN ?_ _ | refine blk_drew ?_ | refine blk_alloc ?_ _)); refine blk_put (cs := #[.string t593, .string (⟨#[]⟩ : ByteArray)]) ?_ 1 _ rfl; (with_reducible repeat (first | refine blk_drewN ?_ _ | refine blk_drew ?_ | refine blk_alloc ?_ _)); refine blk_put (cs := #[.string (⟨#[]⟩ : ByteArray), .string (⟨#[]⟩ : ByteArray)]) ?_ 0 _ rfl; exact lb BK598.out) hb); have n4_ := Aside0.mk (blk_below (g := gb599) (o := .cells #[.int .i64 t595, .int .i64 t596] 36 (0, 0)) (by (with_reducible repeat (first | refine blk_drewN ?_ _ | refine blk_drew ?_ | refine blk_alloc ?_ _)); refine blk_put (cs := #[.int .i64 t595, .int .i64 0]) ?_ 1 _ rfl; (with_reducible repeat (first | refine blk_drewN ?_ _ | refine blk_drew ?_ | refine blk_alloc ?_ _)); refine blk_put (cs := #[.int .i64 0, .int .i64 0]) ?_ 0 _ rfl; (with_reducible repeat (first | refine blk_drewN ?_ _ | refine blk_drew ?_ | refine blk_alloc ?_ _)); refine blk_far ?_ NB599_598.out _; (with_reducible repeat (first | refine blk_drewN ?_ _ | refine blk_drew ?_ | refine blk_alloc ?_ _)); refine blk_far ?_ NB599_598.out _; exact lb BK599.out) hb); have n5_ := Aside0.mk (below_step (lB HB.out) hb); clear BK585 BK586 BK598 BK599 HB; have HO602 := n0_; have BK585 := n1_; have BK586 := n2_; have BK598 := n3_; have BK599 := n4_; have HB := n5_; clear n0_ n1_ n2_ n3_ n4_ n5_; (try clear hb); (try clear hb2); (try clear hk); (try clear hi); (try clear ho0); have hcz89_0 : w88.cell? ⟨gb598, 0, none⟩ = some (.string t593) := (blk_cell BK598.out 0).trans rfl; have hcz89_1 : w88.cell? ⟨gb598, 1, none⟩ = some (.string t594) := (blk_cell BK598.out 1).trans rfl; have hfz89_0 := blk_frozen BK598.out 0; have hfz89_1 := blk_frozen BK598.out 1; have hcz90_0 : w88.cell? ⟨gb599, 0, none⟩ = some (.int .i64 t595) := (blk_cell BK599.out 0).trans rfl; have hcz90_1 : w88.cell? ⟨gb599, 1, none⟩ = some (.int .i64 t596) := (blk_cell BK599.out 1).trans rfl; have hfz90_0 := blk_frozen BK599.out 0; have hfz90_1 := blk_frozen BK599.out 1) | ((with_reducible refine gate_callee (f := 21) rfl ?_); refine goesL_ (some 205) rfl rfl Try.func21 (by kernel_rfl) rfl #[.agg #[.string t593, .string t594], .agg #[.int .i64 t595, .int .i64 t596], .int .i64 t597] rfl lm ?_; (with_reducible refine (spec_OrbitOf.calls t593 t594 t595 t596 t597 t604 t607 _ A66.out).mono ?_); rintro e w91 ⟨v605, rfl, ho0, hb⟩; refine ⟨_, rfl, ?_⟩; have n0_ := Aside0.mk (Kd.R_elder' (by (with_reducible repeat (first | apply Kd.R_alloc | apply Kd.R_drewN | apply Kd.R_drew)); exact HO602.out) (Kd.R_base ho0) hb); have n1_ := Aside0.mk (Kd.R_lower (Kd.R_newB (Kd.R_newB (Kd.R_new' ho0 (Kd.R_lt (by (with_reducible repeat (first | apply Kd.R_alloc | apply Kd.R_drewN | apply Kd.R_drew)); exact HO602.out))) (g := gb586) (o := .cells #[.int .i64 t583, .int .i64 t584] 36 (0, 0)) (lb BK586.out)) (g := gb599) (o := .cells #[.int .i64 t595, .int .i64 t596] 36 (0, 0)) (lb BK599.out)) (below_size (lB HB.out))); have n2_ := Aside0.mk (blk_below (lb BK585.out) hb); have n3_ := Aside0.mk (blk_below (lb BK586.out) hb); have n4_ := Aside0.mk (blk_below (lb BK598.out) hb); have n5_ := Aside0.mk (blk_below (lb BK599.out) hb); have n6_ := Aside0.mk (below_step (lB HB.out) hb); clear HO602 BK585 BK586 BK598 BK599 HB; have HO602 := n0_; have HO606 := n1_; have BK585 := n2_; have BK586 := n3_; have BK598 := n4_; have BK599 := n5_; have HB := n6_; clear n0_ n1_ n2_ n3_ n4_ n5_ n6_; (try clear hb); (try clear hb2); (try clear hk); (try clear hi); (try clear ho0)))
    (try simp only [Act.put, List.setIfInBounds_toArray, List.set_cons_zero, List.set_cons_succ])
    go_cut [231] (fun v231 wc => ∃ (kq : Nat) (x231_66 : Bool), v231 = .bool x231_66 ∧ Aside0 (laws_FnEndsAddUp.j2 kq t597 t600 t603 x231_66 t593 t594 t595 t596 = some r) ∧ Aside0 (kq ≤ kj40) ∧ Aside0 (Kd.R k36 36 wc w.heap.size (fun k_ => k_ ≠ gb599) v601 t600) ∧ Aside0 (wc.heap[gb598]? = some (.cells #[.string t593, .string t594] 25 (0, 0))) ∧ Aside0 (wc.heap[gb599]? = some (.cells #[.int .i64 t595, .int .i64 t596] 36 (0, 0))) ∧ Aside0 (Below w.heap.size w wc))
    case first =>
     as_aux_lemma =>
     have H := HC67.out
     clear HC67
     by_cases c92 : (t589 != t592) = true
     · rw [if_pos c92] at H
       have c92b0 : (t589 != t592) = true := c92
       (try (have c92b1 : decide (t589 = t592) = false := by simpa using c92))
       (try (have c92b2 : (t589 == t592) = false := by simpa using c92))
       (try (have c92b3 : ¬ (t589 = t592) := by simpa using c92))
       clear c92
       (first | rw [c92b0] | (simp only [i64_w, i32_w]; rw [c92b0]) | skip)
       have H' := Aside0.mk H
       clear H
       go_wp2
       go_meet
       case rel => exact ⟨_, (true), (by first | rfl | (simp; done) | (simp [*]; done)), H', ⟨by have := HJ8.out; have := HJ40.out; first | omega | exact Nat.le_refl _⟩, ⟨by (with_reducible repeat (first | apply Kd.R_alloc | apply Kd.R_drewN | apply Kd.R_drew)); exact Kd.R_mono HO602.out (fun _ hk => hk.1.2)⟩, ⟨lb BK598.out⟩, ⟨lb BK599.out⟩, ⟨by exact lB HB.out⟩⟩
     rw [if_neg c92] at H
     have c92b0 : (t589 != t592) = false := by simpa using c92
     (try (have c92b1 : decide (t589 = t592) = true := by simpa using c92))
     (try (have c92b2 : (t589 == t592) = true := by simpa using c92))
     clear c92
     (first | rw [c92b0] | (simp only [i64_w, i32_w]; rw [c92b0]) | skip)
     by_cases c93 : t587 = t590
     rotate_left
     · rw [if_neg c93] at H
       have c93b0 : (t587 == t590) = false := beq_eq_false_iff_ne.mpr c93
       have c93b1 : (t587 != t590) = true := bne_iff_ne.mpr c93
       have H' := Aside0.mk H
       clear H
       go_wp2
       go_meet
       case rel => exact ⟨_, (true), (by first | rfl | (simp; done) | (simp [*]; done)), H', ⟨by have := HJ8.out; have := HJ40.out; first | omega | exact Nat.le_refl _⟩, ⟨by (with_reducible repeat (first | apply Kd.R_alloc | apply Kd.R_drewN | apply Kd.R_drew)); exact Kd.R_mono HO602.out (fun _ hk => hk.1.2)⟩, ⟨lb BK598.out⟩, ⟨lb BK599.out⟩, ⟨by exact lB HB.out⟩⟩
     rw [if_pos c93] at H
     have c93b0 : (t587 == t590) = true := beq_iff_eq.mpr c93
     have c93b1 : (t587 != t590) = false := bne_eq_false_iff_eq.mpr c93
     clear c93
     by_cases c94 : t588 = t591
     rotate_left
     · rw [if_neg c94] at H
       have c94b0 : (t588 == t591) = false := beq_eq_false_iff_ne.mpr c94
       have c94b1 : (t588 != t591) = true := bne_iff_ne.mpr c94
       have H' := Aside0.mk H
       clear H
       go_wp2
       go_meet
       case rel => exact ⟨_, (true), (by first | rfl | (simp; done) | (simp [*]; done)), H', ⟨by have := HJ8.out; have := HJ40.out; first | omega | exact Nat.le_refl _⟩, ⟨by (with_reducible repeat (first | apply Kd.R_alloc | apply Kd.R_drewN | apply Kd.R_drew)); exact Kd.R_mono HO602.out (fun _ hk => hk.1.2)⟩, ⟨lb BK598.out⟩, ⟨lb BK599.out⟩, ⟨by exact lB HB.out⟩⟩
     rw [if_pos c94] at H
     have c94b0 : (t588 == t591) = true := beq_iff_eq.mpr c94
     have c94b1 : (t588 != t591) = false := bne_eq_false_iff_eq.mpr c94
     clear c94
     by_cases c95 : (t603 != t607) = true
     · rw [if_pos c95] at H
       have c95b0 : (t603 != t607) = true := c95
       (try (have c95b1 : decide (t603 = t607) = false := by simpa using c95))
       (try (have c95b2 : (t603 == t607) = false := by simpa using c95))
       (try (have c95b3 : ¬ (t603 = t607) := by simpa using c95))
       clear c95
       have H' := Aside0.mk H
       clear H
       go_wp2
       go_meet
       case rel => exact ⟨_, (true), (by first | rfl | (simp; done) | (simp [*]; done)), H', ⟨by have := HJ8.out; have := HJ40.out; first | omega | exact Nat.le_refl _⟩, ⟨by (with_reducible repeat (first | apply Kd.R_alloc | apply Kd.R_drewN | apply Kd.R_drew)); exact Kd.R_mono HO602.out (fun _ hk => hk.1.2)⟩, ⟨lb BK598.out⟩, ⟨lb BK599.out⟩, ⟨by exact lB HB.out⟩⟩
     rw [if_neg c95] at H
     have c95b0 : (t603 != t607) = false := by simpa using c95
     (try (have c95b1 : decide (t603 = t607) = true := by simpa using c95))
     (try (have c95b2 : (t603 == t607) = true := by simpa using c95))
     clear c95
     replace H := Option.bind_eq_some_iff.mp H
     obtain ⟨t608, A960, H⟩ := H
     (try dsimp only at H)
     have A96 := Aside0.mk A960
     clear A960
     have H' := Aside0.mk H
     clear H
     obtain ⟨Ao97, co97, eo97⟩ := Kd.R_slice HO602.out
     subst eo97
     obtain ⟨Ao98, co98, eo98⟩ := Kd.R_slice HO606.out
     subst eo98
     go_wp2_with (first | (go_at_call 22; (with_reducible refine (laws_fFractions.calls kj40 _ _ t600 _ _ t604 t608 _ ?side1 ?side2 ?side3 ?side4 A96.out).mono ?_); (case side1 => repeat (first | exact (Kd.R_reads' HO602.out).2.2 | (with_reducible refine Kd.C_alloc ?_ _) | (with_reducible refine Kd.C_drewN ?_ _) | (with_reducible refine Kd.C_drew ?_))); (case side2 => exact (Kd.R_reads' HO602.out).2.1); (case side3 => repeat (first | exact (Kd.R_reads' HO606.out).2.2 | (with_reducible refine Kd.C_alloc ?_ _) | (with_reducible refine Kd.C_drewN ?_ _) | (with_reducible refine Kd.C_drew ?_))); (case side4 => exact (Kd.R_reads' HO606.out).2.1); rintro e w' ⟨rfl, ⟨nd, rfl⟩⟩))
     go_meet
     case rel => exact ⟨_, (!t608), (by first | rfl | (simp; done) | (simp [*]; done)), H', ⟨by have := HJ8.out; have := HJ40.out; first | omega | exact Nat.le_refl _⟩, ⟨by (with_reducible repeat (first | apply Kd.R_alloc | apply Kd.R_drewN | apply Kd.R_drew)); exact Kd.R_mono HO602.out (fun _ hk => hk.1.2)⟩, ⟨lb BK598.out⟩, ⟨lb BK599.out⟩, ⟨by exact lB HB.out⟩⟩
    case rest =>
    as_aux_lemma =>
    clear HC67
    (try clear c1)
    (try clear c60)
    (try clear hcz72_0); (try clear hcz72_1); (try clear hcz73_0); (try clear hcz73_1); (try clear hcz75_0); (try clear hcz75_1); (try clear hcz76_0); (try clear hcz76_1); (try clear hcz84_0); (try clear hcz84_1); (try clear hcz87_0); (try clear hcz87_1); (try clear hcz89_0); (try clear hcz89_1); (try clear hcz90_0); (try clear hcz90_1)
    (try clear hfz72_0); (try clear hfz72_1); (try clear hfz73_0); (try clear hfz73_1); (try clear hfz75_0); (try clear hfz75_1); (try clear hfz76_0); (try clear hfz76_1); (try clear hfz84_0); (try clear hfz84_1); (try clear hfz87_0); (try clear hfz87_1); (try clear hfz89_0); (try clear hfz89_1); (try clear hfz90_0); (try clear hfz90_1)
    obtain ⟨kq, x231_66, rfl, HA, HJ66, HO_40, BK598, BK599, HB⟩ := hcut
    cases kq with
    | zero => exact absurd HA.out (by simp [laws_FnEndsAddUp.j2])
    | succ kj66 =>
     have H := HA.out
     clear HA
     simp only [laws_FnEndsAddUp.j2] at H
     by_cases c99 : x231_66 = true
     · subst c99
       rw [if_pos rfl] at H
       exact absurd ((Option.some.inj H).trans HRT.out) (by decide)
     replace c99 := Bool.eq_false_iff.mpr c99
     subst c99
     rw [if_neg (show ¬ (false = true) by decide)] at H
     by_cases c100 : t603 = true
     rotate_left
     · replace c100 := Bool.eq_false_iff.mpr c100
       subst c100
       rw [if_neg (show ¬ (false = true) by decide)] at H
       obtain rfl := Option.some.inj H
       go_wp2
       go_ret
       exact ⟨by first | rfl | (simp [errW_none, errW_some] <;> rfl) | (simp [*, errW_none, errW_some] <;> rfl), by exact lB HB.out⟩

     subst c100
     rw [if_pos rfl] at H
     have HC101 := Aside0.mk H
     clear H
     go_upto_region 27 with (fail)
     go_cut [244] (fun v244 wc => ∃ (kq : Nat) (x244_100 : Bool), v244 = .bool x244_100 ∧ Aside0 (laws_FnEndsAddUp.j3 kq t600 x244_100 t593 t594 = some r) ∧ Aside0 (kq ≤ kj66) ∧ Aside0 (Kd.R k36 36 wc w.heap.size (fun _ => True) v601 t600) ∧ Aside0 (wc.heap[gb598]? = some (.cells #[.string t593, .string t594] 25 (0, 0))) ∧ Aside0 (Below w.heap.size w wc))
     case first =>
      as_aux_lemma =>
      have H := HC101.out
      clear HC101
      by_cases c102 : (t600.length : Int) = (wrap64 (t597 + 1))
      rotate_left
      · rw [if_neg c102] at H
        have c102b0 : ((t600.length : Int) == (wrap64 (t597 + 1))) = false := beq_eq_false_iff_ne.mpr c102
        have c102b1 : ((t600.length : Int) != (wrap64 (t597 + 1))) = true := bne_iff_ne.mpr c102
        (first | rw [c102b0] | (simp only [i64_w, i32_w]; rw [c102b0]) | skip)
        have H' := Aside0.mk H
        clear H
        try go_wp2
        have n0_ := Aside0.mk (Kd.R_drew HO_40.out)
        have n1_ := Aside0.mk (blk_drew BK598.out)
        have n2_ := Aside0.mk (blk_drew BK599.out)
        have n3_ := Aside0.mk (below_drew1 HB.out)
        clear HO_40
        clear BK598
        clear BK599
        clear HB
        have HO_40 := n0_
        have BK598 := n1_
        have BK599 := n2_
        have HB := n3_
        clear n0_ n1_ n2_ n3_
        obtain ⟨Ao107, co107, eo107⟩ := Kd.R_slice HO_40.out
        (first | subst eo107 | (injection eo107 with f1_ f2_ f3_; have f4_ := f1_.symm; have f5_ := f3_.symm; clear f1_ f2_ f3_; subst f4_; subst f5_))
        refine start_ (n := 12) (S := fun w' => True) (ds := []) #[false, false, false, false, false, false, false, false, false, false, false, false] (by kernel_rfl) rfl rfl trivial (fun hHeld => ?_); refine with_tabW laws_FnEndsAddUp.tab27 laws_FnEndsAddUp.bits27 (fun HT_ HW_ => ?_)
        generalize wc.drew = w106 at HO_40 BK598 BK599 HB hHeld ⊢
        refine pure_ (i := 0) (N := some 233) (v := ?_) (a' := ?_) #[true, false, false, false, false, false, false, false, false, false, false, false] rfl rfl (any_of HT_.out (by kernel_rfl)) (fun _ _ _ h => h) (Or.inl ⟨by rfl, ?_⟩) ?_ ?_
        rotate_left
        · intro w'
          go_simp
          with_reducible rfl
        rotate_left
        · simp only [Act.put, List.setIfInBounds_toArray, List.set_cons_zero, List.set_cons_succ, i64_w, i32_w]
          rfl
        refine pure_ (i := 1) (N := some 234) (v := ?_) (a' := ?_) #[true, true, false, false, false, false, false, false, false, false, false, false] rfl rfl (any_of HT_.out (by kernel_rfl)) (fun _ _ _ h => h) (Or.inl ⟨by rfl, ?_⟩) ?_ ?_
        rotate_left
        · intro w'
          go_simp
          with_reducible rfl
        rotate_left
        · simp only [Act.put, List.setIfInBounds_toArray, List.set_cons_zero, List.set_cons_succ, i64_w, i32_w]
          rfl
        refine pure_ (i := 2) (N := some 235) (v := ?_) (a' := ?_) #[true, true, true, false, false, false, false, false, false, false, false, false] rfl rfl (any_of HT_.out (by kernel_rfl)) (fun _ _ _ h => h) (Or.inl ⟨by rfl, ?_⟩) ?_ ?_
        rotate_left
        · intro w'
          go_simp
          with_reducible rfl
        rotate_left
        · simp only [Act.put, List.setIfInBounds_toArray, List.set_cons_zero, List.set_cons_succ, i64_w, i32_w]
          rfl
        refine pure_ (i := 3) (N := some 236) (v := ?_) (a' := ?_) #[true, true, true, true, false, false, false, false, false, false, false, false] rfl rfl (any_of HT_.out (by kernel_rfl)) (fun _ _ _ h => h) (Or.inl ⟨by rfl, ?_⟩) ?_ ?_
        rotate_left
        · intro w'
          go_simp
          with_reducible rfl
        rotate_left
        · simp only [Act.put, List.setIfInBounds_toArray, List.set_cons_zero, List.set_cons_succ, i64_w, i32_w]
          rfl
        refine pure_ (i := 4) (N := some 237) (v := ?_) (a' := ?_) #[true, true, true, true, true, false, false, false, false, false, false, false] rfl rfl (any_of HT_.out (by kernel_rfl)) (fun _ _ _ h => h) (Or.inl ⟨by rfl, ?_⟩) ?_ ?_
        rotate_left
        · intro w'
          go_simp
          with_reducible rfl
        rotate_left
        · simp only [Act.put, List.setIfInBounds_toArray, List.set_cons_zero, List.set_cons_succ, i64_w, i32_w]
          rfl
        refine pure_ (i := 5) (N := some 238) (v := ?_) (a' := ?_) #[true, true, true, true, true, true, false, false, false, false, false, false] rfl rfl (any_of HT_.out (by kernel_rfl)) (fun _ _ _ h => h) (Or.inl ⟨by rfl, ?_⟩) ?_ ?_
        rotate_left
        · intro w'
          go_simp
          with_reducible rfl
        rotate_left
        · simp only [Act.put, List.setIfInBounds_toArray, List.set_cons_zero, List.set_cons_succ, i64_w, i32_w]
          rfl
        refine pure_ (i := 6) (N := some 239) (v := undef) (a' := ?_) #[true, true, true, true, true, true, true, false, false, false, false, false] rfl rfl (any_of HT_.out (by kernel_rfl)) (fun _ _ _ h => h) (Or.inr ⟨by rfl, rfl⟩) ?_ ?_
        rotate_left
        · simp only [Act.put, List.setIfInBounds_toArray, List.set_cons_zero, List.set_cons_succ, i64_w, i32_w]
          rfl
        refine pure_ (i := 7) (N := some 240) (v := undef) (a' := ?_) #[true, true, true, true, true, true, true, true, false, false, false, false] rfl rfl (any_of HT_.out (by kernel_rfl)) (fun _ _ _ h => h) (Or.inr ⟨by rfl, rfl⟩) ?_ ?_
        rotate_left
        · simp only [Act.put, List.setIfInBounds_toArray, List.set_cons_zero, List.set_cons_succ, i64_w, i32_w]
          rfl
        refine pure_ (i := 8) (N := some 241) (v := undef) (a' := ?_) #[true, true, true, true, true, true, true, true, true, false, false, false] rfl rfl (any_of HT_.out (by kernel_rfl)) (fun _ _ _ h => h) (Or.inr ⟨by rfl, rfl⟩) ?_ ?_
        rotate_left
        · simp only [Act.put, List.setIfInBounds_toArray, List.set_cons_zero, List.set_cons_succ, i64_w, i32_w]
          rfl
        refine pure_ (i := 9) (N := some 242) (v := undef) (a' := ?_) #[true, true, true, true, true, true, true, true, true, true, false, false] rfl rfl (any_of HT_.out (by kernel_rfl)) (fun _ _ _ h => h) (Or.inr ⟨by rfl, rfl⟩) ?_ ?_
        rotate_left
        · simp only [Act.put, List.setIfInBounds_toArray, List.set_cons_zero, List.set_cons_succ, i64_w, i32_w]
          rfl
        refine pure_ (i := 10) (N := some 243) (v := undef) (a' := ?_) #[true, true, true, true, true, true, true, true, true, true, true, false] rfl rfl (any_of HT_.out (by kernel_rfl)) (fun _ _ _ h => h) (Or.inr ⟨by rfl, rfl⟩) ?_ ?_
        rotate_left
        · simp only [Act.put, List.setIfInBounds_toArray, List.set_cons_zero, List.set_cons_succ, i64_w, i32_w]
          rfl
        refine pure_ (i := 11) (N := some 244) (v := ?_) (a' := ?_) #[true, true, true, true, true, true, true, true, true, true, true, true] rfl rfl (any_of HT_.out (by kernel_rfl)) (fun _ _ _ h => h) (Or.inl ⟨by rfl, ?_⟩) ?_ ?_
        rotate_left
        · intro w'
          go_simp
          with_reducible rfl
        rotate_left
        · simp only [Act.put, List.setIfInBounds_toArray, List.set_cons_zero, List.set_cons_succ, i64_w, i32_w]
          rfl
        refine done_ (done_of HT_.out (by kernel_rfl)) ?_
        try go_wp2
        go_meet
        case rel => exact ⟨_, (true), (by first | rfl | (simp; done) | (simp [*]; done)), H', ⟨by have := HJ8.out; have := HJ40.out; have := HJ66.out; first | omega | exact Nat.le_refl _⟩, ⟨by (with_reducible repeat (first | apply Kd.R_alloc | apply Kd.R_drewN | apply Kd.R_drew)); exact Kd.R_mono HO_40.out (fun _ hk => trivial)⟩, ⟨lb BK598.out⟩, ⟨by exact lB HB.out⟩⟩
      rw [if_pos c102] at H
      have c102b0 : ((t600.length : Int) == (wrap64 (t597 + 1))) = true := beq_iff_eq.mpr c102
      have c102b1 : ((t600.length : Int) != (wrap64 (t597 + 1))) = false := bne_eq_false_iff_eq.mpr c102
      clear c102
      (first | rw [c102b0] | (simp only [i64_w, i32_w]; rw [c102b0]) | skip)
      by_cases c103 : 0 < (t600.length : Int)
      rotate_left
      · rw [if_neg c103] at H
        exact absurd H (by simp)
      rw [if_pos c103] at H
      have c103b0 : decide (0 < (t600.length : Int)) = true := decide_eq_true c103
      have c103b1 : decide (0 < t600.length) = true := decide_eq_true (by omega)
      clear c103
      have H' := Aside0.mk H
      clear H
      try go_wp2
      have n0_ := Aside0.mk (Kd.R_drew HO_40.out)
      have n1_ := Aside0.mk (blk_drew BK598.out)
      have n2_ := Aside0.mk (blk_drew BK599.out)
      have n3_ := Aside0.mk (below_drew1 HB.out)
      clear HO_40
      clear BK598
      clear BK599
      clear HB
      have HO_40 := n0_
      have BK598 := n1_
      have BK599 := n2_
      have HB := n3_
      clear n0_ n1_ n2_ n3_
      obtain ⟨Ao105, co105, eo105⟩ := Kd.R_slice HO_40.out
      (first | subst eo105 | (injection eo105 with f1_ f2_ f3_; have f4_ := f1_.symm; have f5_ := f3_.symm; clear f1_ f2_ f3_; subst f4_; subst f5_))
      have p609 : 0 ≤ (0 : Int) := (by omega)
      have q609 : 0 < (t600.length : Int) := of_decide_eq_true (by first | (with_reducible assumption) | assumption)
      obtain ⟨ad609, e609, hx609_0, hx609_1⟩ := at_T36 (Kd.R_reads' HO_40.out).2.2 0 p609 q609
      cases e609
      have qi609 : (0 < t600.length) = True := eq_true (by omega)
      (try rw [show ((0 : Int)).toNat = 0 from rfl] at hx609_0)
      (try rw [show 0 * 2 = 0 from rfl] at hx609_0)
      (try rw [Addr.add_zero'] at hx609_0)
      (try rw [show ((0 : Int)).toNat = 0 from rfl] at hx609_1)
      (try rw [show 0 * 2 = 0 from rfl] at hx609_1)
      (try rw [Addr.add_zero'] at hx609_1)
      replace p609 := eq_true p609
      replace q609 := eq_true q609
      refine start_ (n := 12) (S := fun w' => w'.cell? ⟨gb599, 0, none⟩ = some (.int .i64 t595) ∧ w'.cell? ⟨gb599, 1, none⟩ = some (.int .i64 t596) ∧ w'.cell? ad609 = some (.int .i64 ((rd_T36 t600 0).f0)) ∧ w'.cell? ⟨ad609.block, ad609.off + 1, none⟩ = some (.int .i64 ((rd_T36 t600 0).f1))) (ds := []) #[false, false, false, false, false, false, false, false, false, false, false, false] (by kernel_rfl) rfl rfl ⟨(blk_cell BK599.out 0).trans rfl, (blk_cell BK599.out 1).trans rfl, hx609_0, hx609_1⟩ (fun hHeld => ?_); refine with_tabW laws_FnEndsAddUp.tab27 laws_FnEndsAddUp.bits27 (fun HT_ HW_ => ?_)
      generalize wc.drew = w104 at HO_40 BK598 BK599 HB hx609_0 hx609_1 hHeld ⊢
      refine pure_ (i := 0) (N := some 233) (v := ?_) (a' := ?_) #[true, false, false, false, false, false, false, false, false, false, false, false] rfl rfl (any_of HT_.out (by kernel_rfl)) (fun _ _ _ h => h) (Or.inl ⟨by rfl, ?_⟩) ?_ ?_
      rotate_left
      · intro w'
        go_simp
        with_reducible rfl
      rotate_left
      · simp only [Act.put, List.setIfInBounds_toArray, List.set_cons_zero, List.set_cons_succ, i64_w, i32_w]
        rfl
      refine pure_ (i := 1) (N := some 234) (v := ?_) (a' := ?_) #[true, true, false, false, false, false, false, false, false, false, false, false] rfl rfl (any_of HT_.out (by kernel_rfl)) (fun _ _ _ h => h) (Or.inl ⟨by rfl, ?_⟩) ?_ ?_
      rotate_left
      · intro w'
        go_simp
        with_reducible rfl
      rotate_left
      · simp only [Act.put, List.setIfInBounds_toArray, List.set_cons_zero, List.set_cons_succ, i64_w, i32_w]
        rfl
      refine pure_ (i := 2) (N := some 235) (v := ?_) (a' := ?_) #[true, true, true, false, false, false, false, false, false, false, false, false] rfl rfl (any_of HT_.out (by kernel_rfl)) (fun _ _ _ h => h) (Or.inl ⟨by rfl, ?_⟩) ?_ ?_
      rotate_left
      · intro w'
        go_simp
        with_reducible rfl
      rotate_left
      · simp only [Act.put, List.setIfInBounds_toArray, List.set_cons_zero, List.set_cons_succ, i64_w, i32_w]
        rfl
      refine pure_ (i := 3) (N := some 236) (v := ?_) (a' := ?_) #[true, true, true, true, false, false, false, false, false, false, false, false] rfl rfl (any_of HT_.out (by kernel_rfl)) (fun _ _ _ h => h) (Or.inl ⟨by rfl, ?_⟩) ?_ ?_
      rotate_left
      · intro w'
        go_simp
        with_reducible rfl
      rotate_left
      · simp only [Act.put, List.setIfInBounds_toArray, List.set_cons_zero, List.set_cons_succ, i64_w, i32_w]
        rfl
      refine pure_ (i := 4) (N := some 237) (v := ?_) (a' := ?_) #[true, true, true, true, true, false, false, false, false, false, false, false] rfl rfl (any_of HT_.out (by kernel_rfl)) (fun _ _ _ h => h) (Or.inl ⟨by rfl, ?_⟩) ?_ ?_
      rotate_left
      · intro w'
        go_simp
        with_reducible rfl
      rotate_left
      · simp only [Act.put, List.setIfInBounds_toArray, List.set_cons_zero, List.set_cons_succ, i64_w, i32_w]
        rfl
      refine pure_ (i := 5) (N := some 238) (v := ?_) (a' := ?_) #[true, true, true, true, true, true, false, false, false, false, false, false] rfl rfl (any_of HT_.out (by kernel_rfl)) (fun _ _ _ h => h) (Or.inl ⟨by rfl, ?_⟩) ?_ ?_
      rotate_left
      · intro w'
        go_simp
        with_reducible rfl
      rotate_left
      · simp only [Act.put, List.setIfInBounds_toArray, List.set_cons_zero, List.set_cons_succ, i64_w, i32_w]
        rfl
      refine pure_ (i := 6) (N := some 239) (v := ?_) (a' := ?_) #[true, true, true, true, true, true, true, false, false, false, false, false] rfl rfl (any_of HT_.out (by kernel_rfl)) (fun _ _ _ h => h) (Or.inl ⟨by rfl, ?_⟩) ?_ ?_
      rotate_left
      · intro w'
        go_simp
        with_reducible rfl
      rotate_left
      · simp only [Act.put, List.setIfInBounds_toArray, List.set_cons_zero, List.set_cons_succ, i64_w, i32_w]
        rfl
      refine pure_ (i := 7) (N := some 240) (v := ?_) (a' := ?_) #[true, true, true, true, true, true, true, true, false, false, false, false] rfl rfl (any_of HT_.out (by kernel_rfl)) (fun _ _ _ h => h) (Or.inl ⟨by rfl, ?_⟩) ?_ ?_
      rotate_left
      · intro w'
        go_simp
        with_reducible rfl
      rotate_left
      · simp only [Act.put, List.setIfInBounds_toArray, List.set_cons_zero, List.set_cons_succ, i64_w, i32_w]
        rfl
      refine take_ (i := 8) (N := some 241) (v := ?_) (a' := ?_) #[true, true, true, true, true, true, true, true, true, false, false, false] rfl rfl (take_ofW HT_.out HW_.out (by kernel_rfl)) (fun _ _ _ h => h) (Or.inl ⟨by rfl, ?_⟩) hHeld ?_ ?_
      rotate_left
      · rintro w' ⟨s0, s1, s2, s3⟩
        go_simp
        with_reducible rfl
      rotate_left
      · simp only [Act.put, List.setIfInBounds_toArray, List.set_cons_zero, List.set_cons_succ, i64_w, i32_w]
        rfl
      refine take_ (i := 9) (N := some 242) (v := ?_) (a' := ?_) #[true, true, true, true, true, true, true, true, true, true, false, false] rfl rfl (take_ofW HT_.out HW_.out (by kernel_rfl)) (fun _ _ _ h => h) (Or.inl ⟨by rfl, ?_⟩) hHeld ?_ ?_
      rotate_left
      · rintro w' ⟨s0, s1, s2, s3⟩
        go_simp
        with_reducible rfl
      rotate_left
      · simp only [Act.put, List.setIfInBounds_toArray, List.set_cons_zero, List.set_cons_succ, i64_w, i32_w]
        rfl
      refine pure_ (i := 10) (N := some 243) (v := ?_) (a' := ?_) #[true, true, true, true, true, true, true, true, true, true, true, false] rfl rfl (any_of HT_.out (by kernel_rfl)) (fun _ _ _ h => h) (Or.inl ⟨by rfl, ?_⟩) ?_ ?_
      rotate_left
      · intro w'
        go_simp
        with_reducible rfl
      rotate_left
      · simp only [Act.put, List.setIfInBounds_toArray, List.set_cons_zero, List.set_cons_succ, i64_w, i32_w]
        rfl
      refine pure_ (i := 11) (N := some 244) (v := ?_) (a' := ?_) #[true, true, true, true, true, true, true, true, true, true, true, true] rfl rfl (any_of HT_.out (by kernel_rfl)) (fun _ _ _ h => h) (Or.inl ⟨by rfl, ?_⟩) ?_ ?_
      rotate_left
      · intro w'
        go_simp
        with_reducible rfl
      rotate_left
      · simp only [Act.put, List.setIfInBounds_toArray, List.set_cons_zero, List.set_cons_succ, i64_w, i32_w]
        rfl
      refine done_ (done_of HT_.out (by kernel_rfl)) ?_
      try go_wp2
      go_meet
      case rel => exact ⟨_, ((!(((rd_T36 t600 0).f0) == t595) || (!(((rd_T36 t600 0).f1) == t596)))), (by first | rfl | (simp; done) | (simp [*]; done)), H', ⟨by have := HJ8.out; have := HJ40.out; have := HJ66.out; first | omega | exact Nat.le_refl _⟩, ⟨by (with_reducible repeat (first | apply Kd.R_alloc | apply Kd.R_drewN | apply Kd.R_drew)); exact Kd.R_mono HO_40.out (fun _ hk => trivial)⟩, ⟨lb BK598.out⟩, ⟨by exact lB HB.out⟩⟩
     case rest =>
     as_aux_lemma =>
     clear HC101
     (try clear c99); (try clear c100)
     obtain ⟨kq, x244_100, rfl, HA, HJ100, HO_40, BK598, HB⟩ := hcut
     cases kq with
     | zero => exact absurd HA.out (by simp [laws_FnEndsAddUp.j3])
     | succ kj100 =>
      have H := HA.out
      clear HA
      simp only [laws_FnEndsAddUp.j3] at H
      by_cases c108 : x244_100 = true
      · subst c108
        rw [if_pos rfl] at H
        exact absurd ((Option.some.inj H).trans HRT.out) (by decide)
      replace c108 := Bool.eq_false_iff.mpr c108
      subst c108
      rw [if_neg (show ¬ (false = true) by decide)] at H
      have H' := Aside0.mk H
      clear H
      go_wp2
      go_loopg [44] kj100 (fun kq v44 w' => ∃ (x44_5 : Int), v44 = .int .i64 x44_5 ∧ Aside0 (laws_FnEndsAddUp.l0 kq t600 x44_5 t593 t594 = some r) ∧ Aside0 (kq ≤ kj100) ∧ Aside0 (Kd.R k36 36 w' w.heap.size (fun _ => True) v601 t600) ∧ Aside0 (w'.heap[gb598]? = some (.cells #[.string t593, .string t594] 25 (0, 0))) ∧ Aside0 (Below w.heap.size w w'))
      case atStart => exact ⟨(1), (by first | rfl | (simp; done) | (simp [*]; done)), H', ⟨Nat.le_refl _⟩, ⟨by (with_reducible repeat (first | apply Kd.R_alloc | apply Kd.R_drewN | apply Kd.R_drew)); exact HO_40.out⟩, ⟨lb BK598.out⟩, ⟨by exact lB HB.out⟩⟩
      case round =>
       clear H'
       (try clear c108)
       obtain ⟨x44_5, rfl, HA, HK5, HO_40, BK598, HB⟩ := hrel
       cases gk with
       | zero => exact absurd HA.out (by simp [laws_FnEndsAddUp.l0])
       | succ k5 =>
         have H := HA.out
         clear HA
         simp only [laws_FnEndsAddUp.l0] at H
         by_cases c109 : x44_5 < (t600.length : Int)
         · rw [if_pos c109] at H
           have c109b0 : decide (x44_5 < (t600.length : Int)) = true := decide_eq_true c109
           clear c109
           obtain ⟨ji110, hji110⟩ : ∃ j_ : Int, (wrap64 (x44_5 - 1)) = j_ := ⟨_, rfl⟩
           replace H : (if 0 ≤ (ji110) then (if (ji110) < (t600.length : Int) then ((impl_ValueOf.f t593 t594 ((rd_T36 t600 (ji110)).f0) ((rd_T36 t600 (ji110)).f1)).bind fun bt611 => (if bt611.2.2 = true then (if 0 ≤ x44_5 then (if (!(bt611.1 == ((rd_T36 t600 x44_5).f0)) || (!(bt611.2.1 == ((rd_T36 t600 x44_5).f1)))) = true then (some false) else (if x44_5 > 1 then (if 0 ≤ (wrap64 (x44_5 - 2)) then (if (wrap64 (x44_5 - 2)) < (t600.length : Int) then ((laws_fLess.f ((rd_T36 t600 (wrap64 (x44_5 - 2))).f0) ((rd_T36 t600 (wrap64 (x44_5 - 2))).f1) ((rd_T36 t600 (ji110)).f0) ((rd_T36 t600 (ji110)).f1)).bind fun t618 => ((laws_fLess.f ((rd_T36 t600 (ji110)).f0) ((rd_T36 t600 (ji110)).f1) ((rd_T36 t600 x44_5).f0) ((rd_T36 t600 x44_5).f1)).bind fun t621 => (if (t618 != t621) = true then (some false) else (laws_FnEndsAddUp.l0 k5 t600 (wrap64 (x44_5 + 1)) t593 t594)))) else (none)) else (none)) else (laws_FnEndsAddUp.l0 k5 t600 (wrap64 (x44_5 + 1)) t593 t594))) else (none)) else (some false))) else (none)) else (none)) = some r := by first | (rw [hji110] at H; exact H) | (simp only [hji110] at H ⊢; exact H)
           have hji110w : (IntKind.i64.wrap (x44_5 - 1)) = ji110 := (i64_w _).trans hji110
           by_cases c111 : 0 ≤ (ji110)
           · rw [if_pos c111] at H
             have c111b0 : decide (0 ≤ (ji110)) = true := decide_eq_true c111
             clear c111
             by_cases c112 : (ji110) < (t600.length : Int)
             · rw [if_pos c112] at H
               have c112b0 : decide ((ji110) < (t600.length : Int)) = true := decide_eq_true c112
               clear c112
               replace H := Option.bind_eq_some_iff.mp H
               obtain ⟨⟨t611, t612, t613⟩, A1130, H⟩ := H
               replace H : (if t613 = true then (if 0 ≤ x44_5 then (if (!(t611 == ((rd_T36 t600 x44_5).f0)) || (!(t612 == ((rd_T36 t600 x44_5).f1)))) = true then (some false) else (if x44_5 > 1 then (if 0 ≤ (wrap64 (x44_5 - 2)) then (if (wrap64 (x44_5 - 2)) < (t600.length : Int) then ((laws_fLess.f ((rd_T36 t600 (wrap64 (x44_5 - 2))).f0) ((rd_T36 t600 (wrap64 (x44_5 - 2))).f1) ((rd_T36 t600 (ji110)).f0) ((rd_T36 t600 (ji110)).f1)).bind fun t618 => ((laws_fLess.f ((rd_T36 t600 (ji110)).f0) ((rd_T36 t600 (ji110)).f1) ((rd_T36 t600 x44_5).f0) ((rd_T36 t600 x44_5).f1)).bind fun t621 => (if (t618 != t621) = true then (some false) else (laws_FnEndsAddUp.l0 k5 t600 (wrap64 (x44_5 + 1)) t593 t594)))) else (none)) else (none)) else (laws_FnEndsAddUp.l0 k5 t600 (wrap64 (x44_5 + 1)) t593 t594))) else (none)) else (some false)) = some r := H
               have A113 := Aside0.mk A1130
               clear A1130
               by_cases c114 : t613 = true
               · subst c114
                 have H1 : (if 0 ≤ x44_5 then (if (!(t611 == ((rd_T36 t600 x44_5).f0)) || (!(t612 == ((rd_T36 t600 x44_5).f1)))) = true then (some false) else (if x44_5 > 1 then (if 0 ≤ (wrap64 (x44_5 - 2)) then (if (wrap64 (x44_5 - 2)) < (t600.length : Int) then ((laws_fLess.f ((rd_T36 t600 (wrap64 (x44_5 - 2))).f0) ((rd_T36 t600 (wrap64 (x44_5 - 2))).f1) ((rd_T36 t600 (ji110)).f0) ((rd_T36 t600 (ji110)).f1)).bind fun t618 => ((laws_fLess.f ((rd_T36 t600 (ji110)).f0) ((rd_T36 t600 (ji110)).f1) ((rd_T36 t600 x44_5).f0) ((rd_T36 t600 x44_5).f1)).bind fun t621 => (if (t618 != t621) = true then (some false) else (laws_FnEndsAddUp.l0 k5 t600 (wrap64 (x44_5 + 1)) t593 t594)))) else (none)) else (none)) else (laws_FnEndsAddUp.l0 k5 t600 (wrap64 (x44_5 + 1)) t593 t594))) else (none)) = some r := by rw [if_pos rfl] at H; exact H
                 clear H
                 have H := H1
                 clear H1
                 by_cases c115 : 0 ≤ x44_5
                 · rw [if_pos c115] at H
                   have c115b0 : decide (0 ≤ x44_5) = true := decide_eq_true c115
                   clear c115
                   by_cases c116 : (!(t611 == ((rd_T36 t600 x44_5).f0)) || (!(t612 == ((rd_T36 t600 x44_5).f1)))) = true
                   · rw [if_pos c116] at H
                     have c116b0 : (!(t611 == ((rd_T36 t600 x44_5).f0)) || (!(t612 == ((rd_T36 t600 x44_5).f1)))) = true := c116
                     clear c116
                     exact absurd ((Option.some.inj H).trans HRT.out) (by decide)
                   · rw [if_neg c116] at H
                     have c116b0 : (!(t611 == ((rd_T36 t600 x44_5).f0)) || (!(t612 == ((rd_T36 t600 x44_5).f1)))) = false := by simpa using c116
                     clear c116
                     by_cases c117 : x44_5 > 1
                     · rw [if_pos c117] at H
                       have c117b0 : decide (1 < x44_5) = true := decide_eq_true c117
                       clear c117
                       obtain ⟨ji118, hji118⟩ : ∃ j_ : Int, (wrap64 (x44_5 - 2)) = j_ := ⟨_, rfl⟩
                       replace H : (if 0 ≤ (ji118) then (if (ji118) < (t600.length : Int) then ((laws_fLess.f ((rd_T36 t600 (ji118)).f0) ((rd_T36 t600 (ji118)).f1) ((rd_T36 t600 (ji110)).f0) ((rd_T36 t600 (ji110)).f1)).bind fun t618 => ((laws_fLess.f ((rd_T36 t600 (ji110)).f0) ((rd_T36 t600 (ji110)).f1) ((rd_T36 t600 x44_5).f0) ((rd_T36 t600 x44_5).f1)).bind fun t621 => (if (t618 != t621) = true then (some false) else (laws_FnEndsAddUp.l0 k5 t600 (wrap64 (x44_5 + 1)) t593 t594)))) else (none)) else (none)) = some r := by first | (rw [hji118] at H; exact H) | (simp only [hji118] at H ⊢; exact H)
                       (try rw [hji118] at A113)
                       have hji118w : (IntKind.i64.wrap (x44_5 - 2)) = ji118 := (i64_w _).trans hji118
                       by_cases c119 : 0 ≤ (ji118)
                       · rw [if_pos c119] at H
                         have c119b0 : decide (0 ≤ (ji118)) = true := decide_eq_true c119
                         clear c119
                         by_cases c120 : (ji118) < (t600.length : Int)
                         · rw [if_pos c120] at H
                           have c120b0 : decide ((ji118) < (t600.length : Int)) = true := decide_eq_true c120
                           clear c120
                           replace H := Option.bind_eq_some_iff.mp H
                           obtain ⟨t618, A1210, H⟩ := H
                           replace H : ((laws_fLess.f ((rd_T36 t600 (ji110)).f0) ((rd_T36 t600 (ji110)).f1) ((rd_T36 t600 x44_5).f0) ((rd_T36 t600 x44_5).f1)).bind fun t621 => (if (t618 != t621) = true then (some false) else (laws_FnEndsAddUp.l0 k5 t600 (wrap64 (x44_5 + 1)) t593 t594))) = some r := H
                           have A121 := Aside0.mk A1210
                           clear A1210
                           replace H := Option.bind_eq_some_iff.mp H
                           obtain ⟨t621, A1220, H⟩ := H
                           replace H : (if (t618 != t621) = true then (some false) else (laws_FnEndsAddUp.l0 k5 t600 (wrap64 (x44_5 + 1)) t593 t594)) = some r := H
                           have A122 := Aside0.mk A1220
                           clear A1220
                           by_cases c123 : (t618 != t621) = true
                           · rw [if_pos c123] at H
                             have c123b0 : (t618 != t621) = true := c123
                             (try (have c123b1 : decide (t618 = t621) = false := by simpa using c123))
                             (try (have c123b2 : (t618 == t621) = false := by simpa using c123))
                             (try (have c123b3 : ¬ (t618 = t621) := by simpa using c123))
                             clear c123
                             exact absurd ((Option.some.inj H).trans HRT.out) (by decide)
                           · rw [if_neg c123] at H
                             have c123b0 : (t618 != t621) = false := by simpa using c123
                             (try (have c123b1 : decide (t618 = t621) = true := by simpa using c123))
                             (try (have c123b2 : (t618 == t621) = true := by simpa using c123))
                             clear c123
                             have H' := Aside0.mk H
                             clear H
                             obtain ⟨Ao124, co124, eo124⟩ := Kd.R_slice HO_40.out
                             subst eo124
                             try go_wp2
                             have n0_ := Aside0.mk (Kd.R_drew HO_40.out)
                             have n1_ := Aside0.mk (blk_drew BK598.out)
                             have n2_ := Aside0.mk (below_drew1 HB.out)
                             clear HO_40
                             clear BK598
                             clear HB
                             have HO_40 := n0_
                             have BK598 := n1_
                             have HB := n2_
                             clear n0_ n1_ n2_
                             have p610 : 0 ≤ ((ji110) : Int) := of_decide_eq_true (by first | (with_reducible assumption) | assumption)
                             have q610 : (ji110) < (t600.length : Int) := of_decide_eq_true (by first | (with_reducible assumption) | assumption)
                             obtain ⟨ad610, e610, hx610_0, hx610_1⟩ := at_T36 (Kd.R_reads' HO_40.out).2.2 (ji110) p610 q610
                             cases e610
                             replace p610 := eq_true p610
                             replace q610 := eq_true q610
                             refine start_ (n := 13) (S := fun w' => w'.cell? ⟨gb598, 0, none⟩ = some (.string t593) ∧ w'.cell? ⟨gb598, 1, none⟩ = some (.string t594) ∧ w'.cell? (ad610.add (((ji110)).toNat * 2)) = some (.int .i64 ((rd_T36 t600 (ji110)).f0)) ∧ w'.cell? ⟨(ad610.add (((ji110)).toNat * 2)).block, (ad610.add (((ji110)).toNat * 2)).off + 1, none⟩ = some (.int .i64 ((rd_T36 t600 (ji110)).f1))) (ds := []) #[false, false, false, false, false, false, false, false, false, false, false, false, false] (by kernel_rfl) rfl rfl ⟨(blk_cell BK598.out 0).trans rfl, (blk_cell BK598.out 1).trans rfl, hx610_0, hx610_1⟩ (fun hHeld => ?_); refine with_tabW laws_FnEndsAddUp.tab32 laws_FnEndsAddUp.bits32 (fun HT_ HW_ => ?_)
                             generalize wr.drew = w125 at HO_40 BK598 HB hx610_0 hx610_1 hHeld ⊢
                             refine pure_ (i := 1) (N := some 253) (v := ?_) (a' := ?_) #[false, true, false, false, false, false, false, false, false, false, false, false, false] rfl rfl (any_of HT_.out (by kernel_rfl)) (fun _ _ _ h => h) (Or.inl ⟨by rfl, ?_⟩) ?_ ?_
                             rotate_left
                             · intro w'
                               go_simp
                               with_reducible rfl
                             rotate_left
                             · simp only [Act.put, List.setIfInBounds_toArray, List.set_cons_zero, List.set_cons_succ, i64_w, i32_w]
                               rfl
                             refine pure_ (i := 2) (N := some 254) (v := ?_) (a' := ?_) #[false, true, true, false, false, false, false, false, false, false, false, false, false] rfl rfl (any_of HT_.out (by kernel_rfl)) (fun _ _ _ h => h) (Or.inl ⟨by rfl, ?_⟩) ?_ ?_
                             rotate_left
                             · intro w'
                               go_simp
                               with_reducible rfl
                             rotate_left
                             · simp only [Act.put, List.setIfInBounds_toArray, List.set_cons_zero, List.set_cons_succ, i64_w, i32_w]
                               rfl
                             refine pure_ (i := 3) (N := some 255) (v := ?_) (a' := ?_) #[false, true, true, true, false, false, false, false, false, false, false, false, false] rfl rfl (any_of HT_.out (by kernel_rfl)) (fun _ _ _ h => h) (Or.inl ⟨by rfl, ?_⟩) ?_ ?_
                             rotate_left
                             · intro w'
                               go_simp
                               with_reducible rfl
                             rotate_left
                             · simp only [Act.put, List.setIfInBounds_toArray, List.set_cons_zero, List.set_cons_succ, i64_w, i32_w]
                               rfl
                             refine pure_ (i := 4) (N := some 256) (v := ?_) (a' := ?_) #[false, true, true, true, true, false, false, false, false, false, false, false, false] rfl rfl (any_of HT_.out (by kernel_rfl)) (fun _ _ _ h => h) (Or.inl ⟨by rfl, ?_⟩) ?_ ?_
                             rotate_left
                             · intro w'
                               go_simp
                               with_reducible rfl
                             rotate_left
                             · simp only [Act.put, List.setIfInBounds_toArray, List.set_cons_zero, List.set_cons_succ, i64_w, i32_w]
                               rfl
                             refine take_ (i := 0) (N := some 252) (v := ?_) (a' := ?_) #[true, true, true, true, true, false, false, false, false, false, false, false, false] rfl rfl (take_ofW HT_.out HW_.out (by kernel_rfl)) (fun _ _ _ h => h) (Or.inl ⟨by rfl, ?_⟩) hHeld ?_ ?_
                             rotate_left
                             · rintro w' ⟨s0, s1, s2, s3⟩
                               go_simp
                               with_reducible rfl
                             rotate_left
                             · simp only [Act.put, List.setIfInBounds_toArray, List.set_cons_zero, List.set_cons_succ, i64_w, i32_w]
                               rfl
                             refine take_ (i := 5) (N := some 257) (v := ?_) (a' := ?_) #[true, true, true, true, true, true, false, false, false, false, false, false, false] rfl rfl (take_ofW HT_.out HW_.out (by kernel_rfl)) (fun _ _ _ h => h) (Or.inl ⟨by rfl, ?_⟩) hHeld ?_ ?_
                             rotate_left
                             · rintro w' ⟨s0, s1, s2, s3⟩
                               go_simp
                               with_reducible rfl
                             rotate_left
                             · simp only [Act.put, List.setIfInBounds_toArray, List.set_cons_zero, List.set_cons_succ, i64_w, i32_w]
                               rfl
                             refine join_ (σ := Nat) 2 #[true, true, true, true, true, true, true, true, true, true, true, false, false] (fun s_ => [(258, .tuple #[.agg #[.int .i64 t611, .int .i64 t612], .bool true]), (45, .pointer (some ⟨s_, 0, none⟩)), (251, .tuple #[.agg #[.int .i64 t611, .int .i64 t612], .bool true]), (259, .agg #[.int .i64 t611, .int .i64 t612]), (260, .bool true)]) (fun s_ w' => (w'.cell? ⟨gb598, 0, none⟩ = some (.string t593) ∧ w'.cell? ⟨gb598, 1, none⟩ = some (.string t594) ∧ w'.cell? (ad610.add (((ji110)).toNat * 2)) = some (.int .i64 ((rd_T36 t600 (ji110)).f0)) ∧ w'.cell? ⟨(ad610.add (((ji110)).toNat * 2)).block, (ad610.add (((ji110)).toNat * 2)).off + 1, none⟩ = some (.int .i64 ((rd_T36 t600 (ji110)).f1))) ∧ (Kd.R k36 36 w' w.heap.size (fun k_ => k_ ≠ s_) (.slice (some ad610) t600.length co124) t600) ∧ (w'.heap[gb598]? = some (.cells #[.string t593, .string t594] 25 (0, 0))) ∧ (w'.heap[s_]? = some (.cells #[.int .i64 0, .int .i64 0] 36 (0, 0))) ∧ (w.heap.size ≤ s_) ∧ (w.heap.size ≤ s_) ∧ (gb598 ≠ s_) ∧ (s_ ≠ gb598) ∧ (Below w.heap.size w w')) ?_ ?_
                             rotate_left
                             · intro hCont
                               refine two_ (i := 6) (j := 10) (Ni := some 258) (Nj := some 45) #[true, true, true, true, true, true, true, false, false, false, false, false, false] #[true, true, true, true, true, true, false, false, false, false, true, false, false] rfl rfl rfl rfl (two_of HT_.out (by kernel_rfl)) (by decide) (by decide) (fun K hK => ?_) (fun K hK => ?_)
                               · skip
                                 refine goes_ Try.func23 (by kernel_rfl) rfl #[.agg #[.string t593, .string t594], .agg #[.int .i64 ((rd_T36 t600 (ji110)).f0), .int .i64 ((rd_T36 t600 (ji110)).f1)]] (by rfl) rfl rfl (by (try simp only [List.map_toArray, List.map_cons, List.map_nil]); first | done | (simp only [hji110]; rfl) | rfl | (simp only [List.length_drop, List.length_take]; rfl)) ?_
                                 with_reducible refine (impl_ValueOf.calls t593 t594 ((rd_T36 t600 (ji110)).f0) ((rd_T36 t600 (ji110)).f1) t611 t612 true _ A113.out).mono ?_
                                 rintro e w126 ⟨rfl, hb⟩
                                 have HS2_ := (hb.cell (World.block_lt_of_cell? _ _ (hHeld.2.2.1))).trans (hHeld.2.2.1)
                                 have HS3_ := (hb.cell (World.block_lt_of_cell? _ _ (hHeld.2.2.2))).trans (hHeld.2.2.2)
                                 refine ⟨_, rfl, ?_⟩
                                 have n0_ := Aside0.mk (Kd.R_below (by (with_reducible repeat (first | apply Kd.R_alloc | apply Kd.R_drewN | apply Kd.R_drew)); exact HO_40.out) hb)
                                 have n1_ := Aside0.mk (blk_below (lb BK598.out) hb)
                                 have n2_ := Aside0.mk (below_step (lB HB.out) hb)
                                 clear HO_40
                                 clear BK598
                                 clear HB
                                 have HO_40 := n0_
                                 have BK598 := n1_
                                 have HB := n2_
                                 clear n0_ n1_ n2_
                                 (try clear hb)
                                 (try clear hb2)
                                 (try clear hk)
                                 (try clear hi)
                                 refine hK.out _ _ ⟨(blk_cell BK598.out 0).trans rfl, (blk_cell BK598.out 1).trans rfl, HS2_, HS3_⟩ (fun hHeld => ?_)
                                 clear hK K
                                 refine norm_ (a' := ?_) ?_ ?_
                                 rotate_left
                                 · show Act.put _ (some 258) _ = _
                                   simp only [Act.put, List.setIfInBounds_toArray, List.set_cons_zero, List.set_cons_succ, i64_w, i32_w]
                                   rfl
                                 refine pure_ (i := 7) (N := some 251) (v := ?_) (a' := ?_) #[true, true, true, true, true, true, true, true, false, false, false, false, false] rfl rfl (any_of HT_.out (by kernel_rfl)) (fun _ _ _ h => h) (Or.inl ⟨by rfl, ?_⟩) ?_ ?_
                                 rotate_left
                                 · intro w'
                                   go_simp
                                   with_reducible rfl
                                 rotate_left
                                 · simp only [Act.put, List.setIfInBounds_toArray, List.set_cons_zero, List.set_cons_succ, i64_w, i32_w]
                                   rfl
                                 refine pure_ (i := 8) (N := some 259) (v := ?_) (a' := ?_) #[true, true, true, true, true, true, true, true, true, false, false, false, false] rfl rfl (any_of HT_.out (by kernel_rfl)) (fun _ _ _ h => h) (Or.inl ⟨by rfl, ?_⟩) ?_ ?_
                                 rotate_left
                                 · intro w'
                                   go_simp
                                   with_reducible rfl
                                 rotate_left
                                 · simp only [Act.put, List.setIfInBounds_toArray, List.set_cons_zero, List.set_cons_succ, i64_w, i32_w]
                                   rfl
                                 refine pure_ (i := 9) (N := some 260) (v := ?_) (a' := ?_) #[true, true, true, true, true, true, true, true, true, true, false, false, false] rfl rfl (any_of HT_.out (by kernel_rfl)) (fun _ _ _ h => h) (Or.inl ⟨by rfl, ?_⟩) ?_ ?_
                                 rotate_left
                                 · intro w'
                                   go_simp
                                   with_reducible rfl
                                 rotate_left
                                 · simp only [Act.put, List.setIfInBounds_toArray, List.set_cons_zero, List.set_cons_succ, i64_w, i32_w]
                                   rfl
                                 refine one_ (i := 10) (N := some 45) #[true, true, true, true, true, true, true, true, true, true, true, false, false] rfl rfl (one_of HT_.out (by kernel_rfl)) (by decide) (fun K hK => ?_)
                                 refine box_step ?hg (N := 45) ?hd (cs := #[.int .i64 0, .int .i64 0]) (t := 36) ?hr ?_; (case hd => rfl); (case hg => rfl); (case hr => first | (go_simp; done) | (go_simp; rfl))
                                 intro gb614 hg w127 hbox hb
                                 have HS2_ := (hb.cell (World.block_lt_of_cell? _ _ (hHeld.2.2.1))).trans (hHeld.2.2.1)
                                 have HS3_ := (hb.cell (World.block_lt_of_cell? _ _ (hHeld.2.2.2))).trans (hHeld.2.2.2)
                                 have n0_ := Aside0.mk (Kd.R_below (Kd.R_elderB (by (with_reducible repeat (first | apply Kd.R_alloc | apply Kd.R_drewN | apply Kd.R_drew)); exact HO_40.out) gb614 (Nat.le_of_eq hg.symm)) hb)
                                 have n1_ := Aside0.mk (blk_below (lb BK598.out) hb)
                                 have n2_ := Aside0.mk (below_step (lB HB.out) hb)
                                 have n3_ := Aside0.mk (hbox)
                                 have n4_ := gw hg (lB HB.out)
                                 have n5_ := gw hg (lB HB.out)
                                 have n6_ := na hg (lb BK598.out)
                                 have n7_ := nz hg (lb BK598.out)
                                 clear HO_40
                                 clear BK598
                                 clear HB
                                 have HO_40 := n0_
                                 have BK598 := n1_
                                 have HB := n2_
                                 have BK614 := n3_
                                 have GW614 := n4_
                                 have GE614 := n5_
                                 have NB598_614 := n6_
                                 have NB614_598 := n7_
                                 clear n0_ n1_ n2_ n3_ n4_ n5_ n6_ n7_
                                 clear hb hbox hg
                                 refine hK.out _ _ ⟨(blk_cell BK598.out 0).trans rfl, (blk_cell BK598.out 1).trans rfl, HS2_, HS3_⟩ (fun hHeld => ?_)
                                 clear hK K
                                 refine norm_ (a' := ?_) ?_ ?_
                                 rotate_left
                                 · show Act.put _ (some 45) _ = _
                                   simp only [Act.put, List.setIfInBounds_toArray, List.set_cons_zero, List.set_cons_succ, i64_w, i32_w]
                                   rfl
                                 exact norm_ (by simp only [putAll, Act.put, List.setIfInBounds_toArray, List.set_cons_zero, List.set_cons_succ]) (hCont (gb614) _ ⟨hHeld, (by (with_reducible repeat (first | apply Kd.R_alloc | apply Kd.R_drewN | apply Kd.R_drew)); exact Kd.R_mono HO_40.out (fun _ hk => hk.2)), (lb BK598.out), (lb BK614.out), GW614.out, GE614.out, NB598_614.out, NB614_598.out, (lB HB.out)⟩)
                               · skip
                                 refine box_step ?hg (N := 45) ?hd (cs := #[.int .i64 0, .int .i64 0]) (t := 36) ?hr ?_; (case hd => rfl); (case hg => rfl); (case hr => first | (go_simp; done) | (go_simp; rfl))
                                 intro gb614 hg w126 hbox hb
                                 have HS2_ := (hb.cell (World.block_lt_of_cell? _ _ (hHeld.2.2.1))).trans (hHeld.2.2.1)
                                 have HS3_ := (hb.cell (World.block_lt_of_cell? _ _ (hHeld.2.2.2))).trans (hHeld.2.2.2)
                                 have n0_ := Aside0.mk (Kd.R_below (Kd.R_elderB (by (with_reducible repeat (first | apply Kd.R_alloc | apply Kd.R_drewN | apply Kd.R_drew)); exact HO_40.out) gb614 (Nat.le_of_eq hg.symm)) hb)
                                 have n1_ := Aside0.mk (blk_below (lb BK598.out) hb)
                                 have n2_ := Aside0.mk (below_step (lB HB.out) hb)
                                 have n3_ := Aside0.mk (hbox)
                                 have n4_ := gw hg (lB HB.out)
                                 have n5_ := gw hg (lB HB.out)
                                 have n6_ := na hg (lb BK598.out)
                                 have n7_ := nz hg (lb BK598.out)
                                 clear HO_40
                                 clear BK598
                                 clear HB
                                 have HO_40 := n0_
                                 have BK598 := n1_
                                 have HB := n2_
                                 have BK614 := n3_
                                 have GW614 := n4_
                                 have GE614 := n5_
                                 have NB598_614 := n6_
                                 have NB614_598 := n7_
                                 clear n0_ n1_ n2_ n3_ n4_ n5_ n6_ n7_
                                 clear hb hbox hg
                                 refine hK.out _ _ ⟨(blk_cell BK598.out 0).trans rfl, (blk_cell BK598.out 1).trans rfl, HS2_, HS3_⟩ (fun hHeld => ?_)
                                 clear hK K
                                 refine norm_ (a' := ?_) ?_ ?_
                                 rotate_left
                                 · show Act.put _ (some 45) _ = _
                                   simp only [Act.put, List.setIfInBounds_toArray, List.set_cons_zero, List.set_cons_succ, i64_w, i32_w]
                                   rfl
                                 refine one_ (i := 6) (N := some 258) #[true, true, true, true, true, true, true, false, false, false, true, false, false] rfl rfl (one_of HT_.out (by kernel_rfl)) (by decide) (fun K hK => ?_)
                                 refine goes_ Try.func23 (by kernel_rfl) rfl #[.agg #[.string t593, .string t594], .agg #[.int .i64 ((rd_T36 t600 (ji110)).f0), .int .i64 ((rd_T36 t600 (ji110)).f1)]] (by rfl) rfl rfl (by (try simp only [List.map_toArray, List.map_cons, List.map_nil]); first | done | (simp only [hji110]; rfl) | rfl | (simp only [List.length_drop, List.length_take]; rfl)) ?_
                                 with_reducible refine (impl_ValueOf.calls t593 t594 ((rd_T36 t600 (ji110)).f0) ((rd_T36 t600 (ji110)).f1) t611 t612 true _ A113.out).mono ?_
                                 rintro e w127 ⟨rfl, hb⟩
                                 have HS2_ := (hb.cell (World.block_lt_of_cell? _ _ (hHeld.2.2.1))).trans (hHeld.2.2.1)
                                 have HS3_ := (hb.cell (World.block_lt_of_cell? _ _ (hHeld.2.2.2))).trans (hHeld.2.2.2)
                                 refine ⟨_, rfl, ?_⟩
                                 have n0_ := Aside0.mk (Kd.R_below (by (with_reducible repeat (first | apply Kd.R_alloc | apply Kd.R_drewN | apply Kd.R_drew)); exact HO_40.out) hb)
                                 have n1_ := Aside0.mk (blk_below (lb BK598.out) hb)
                                 have n2_ := Aside0.mk (blk_below (lb BK614.out) hb)
                                 have n3_ := Aside0.mk (below_step (lB HB.out) hb)
                                 clear HO_40
                                 clear BK598
                                 clear BK614
                                 clear HB
                                 have HO_40 := n0_
                                 have BK598 := n1_
                                 have BK614 := n2_
                                 have HB := n3_
                                 clear n0_ n1_ n2_ n3_
                                 (try clear hb)
                                 refine hK.out _ _ ⟨(blk_cell BK598.out 0).trans rfl, (blk_cell BK598.out 1).trans rfl, HS2_, HS3_⟩ (fun hHeld => ?_)
                                 clear hK K
                                 refine norm_ (a' := ?_) ?_ ?_
                                 rotate_left
                                 · show Act.put _ (some 258) _ = _
                                   simp only [Act.put, List.setIfInBounds_toArray, List.set_cons_zero, List.set_cons_succ, i64_w, i32_w]
                                   rfl
                                 refine pure_ (i := 7) (N := some 251) (v := ?_) (a' := ?_) #[true, true, true, true, true, true, true, true, false, false, true, false, false] rfl rfl (any_of HT_.out (by kernel_rfl)) (fun _ _ _ h => h) (Or.inl ⟨by rfl, ?_⟩) ?_ ?_
                                 rotate_left
                                 · intro w'
                                   go_simp
                                   with_reducible rfl
                                 rotate_left
                                 · simp only [Act.put, List.setIfInBounds_toArray, List.set_cons_zero, List.set_cons_succ, i64_w, i32_w]
                                   rfl
                                 refine pure_ (i := 8) (N := some 259) (v := ?_) (a' := ?_) #[true, true, true, true, true, true, true, true, true, false, true, false, false] rfl rfl (any_of HT_.out (by kernel_rfl)) (fun _ _ _ h => h) (Or.inl ⟨by rfl, ?_⟩) ?_ ?_
                                 rotate_left
                                 · intro w'
                                   go_simp
                                   with_reducible rfl
                                 rotate_left
                                 · simp only [Act.put, List.setIfInBounds_toArray, List.set_cons_zero, List.set_cons_succ, i64_w, i32_w]
                                   rfl
                                 refine pure_ (i := 9) (N := some 260) (v := ?_) (a' := ?_) #[true, true, true, true, true, true, true, true, true, true, true, false, false] rfl rfl (any_of HT_.out (by kernel_rfl)) (fun _ _ _ h => h) (Or.inl ⟨by rfl, ?_⟩) ?_ ?_
                                 rotate_left
                                 · intro w'
                                   go_simp
                                   with_reducible rfl
                                 rotate_left
                                 · simp only [Act.put, List.setIfInBounds_toArray, List.set_cons_zero, List.set_cons_succ, i64_w, i32_w]
                                   rfl
                                 exact norm_ (by simp only [putAll, Act.put, List.setIfInBounds_toArray, List.set_cons_zero, List.set_cons_succ]) (hCont (gb614) _ ⟨hHeld, (by (with_reducible repeat (first | apply Kd.R_alloc | apply Kd.R_drewN | apply Kd.R_drew)); exact Kd.R_mono HO_40.out (fun _ hk => hk.2)), (lb BK598.out), (lb BK614.out), GW614.out, GE614.out, NB598_614.out, NB614_598.out, (lB HB.out)⟩)
                             rintro gb614 w128 ⟨hS_, h0_, h1_, h2_, h3_, h4_, h5_, h6_, h7_⟩
                             have n0_ : Aside0 (Kd.R k36 36 w128 w.heap.size (fun k_ => k_ ≠ gb614) (.slice (some ad610) t600.length co124) t600) := ⟨h0_⟩
                             have n1_ : Aside0 (w128.heap[gb598]? = some (.cells #[.string t593, .string t594] 25 (0, 0))) := ⟨h1_⟩
                             have n2_ : Aside0 (w128.heap[gb614]? = some (.cells #[.int .i64 0, .int .i64 0] 36 (0, 0))) := ⟨h2_⟩
                             have n3_ : Aside0 (w.heap.size ≤ gb614) := ⟨h3_⟩
                             have n4_ : Aside0 (w.heap.size ≤ gb614) := ⟨h4_⟩
                             have n5_ : Aside0 (gb598 ≠ gb614) := ⟨h5_⟩
                             have n6_ : Aside0 (gb614 ≠ gb598) := ⟨h6_⟩
                             have n7_ : Aside0 (Below w.heap.size w w128) := ⟨h7_⟩
                             clear HO_40
                             clear BK598
                             clear HB
                             clear h0_ h1_ h2_ h3_ h4_ h5_ h6_ h7_
                             have HO_40 := n0_
                             have BK598 := n1_
                             have BK614 := n2_
                             have GW614 := n3_
                             have GE614 := n4_
                             have NB598_614 := n5_
                             have NB614_598 := n6_
                             have HB := n7_
                             clear n0_ n1_ n2_ n3_ n4_ n5_ n6_ n7_
                             have hHeld : w128.cell? ⟨gb598, 0, none⟩ = some (.string t593) ∧ w128.cell? ⟨gb598, 1, none⟩ = some (.string t594) ∧ w128.cell? (ad610.add (((ji110)).toNat * 2)) = some (.int .i64 ((rd_T36 t600 (ji110)).f0)) ∧ w128.cell? ⟨(ad610.add (((ji110)).toNat * 2)).block, (ad610.add (((ji110)).toNat * 2)).off + 1, none⟩ = some (.int .i64 ((rd_T36 t600 (ji110)).f1)) := hS_
                             refine norm_ (a' := ?_) ?_ ?_
                             rotate_left
                             · simp only [putAll, Act.put, List.setIfInBounds_toArray, List.set_cons_zero, List.set_cons_succ]
                               rfl
                             refine one_ (i := 11) (N := none) #[true, true, true, true, true, true, true, true, true, true, true, true, false] rfl rfl (one_of HT_.out (by kernel_rfl)) (by decide) (fun K hK => ?_)
                             have hs129 : w128.cell? ⟨gb614, 0, none⟩ = some (.int .i64 0) := (blk_cell BK614.out 0).trans rfl
                             have hfs129 := blk_frozen BK614.out 0
                             have hns129_0 := NB598_614.out
                             have hms129_0 := NB614_598.out
                             have hs130 : w128.cell? ⟨gb614, 1, none⟩ = some (.int .i64 0) := (blk_cell BK614.out 1).trans rfl
                             have hfs130 := blk_frozen BK614.out 1
                             have hns130_0 := NB598_614.out
                             have hms130_0 := NB614_598.out
                             refine skip_ (w1 := ?_) (by rfl) rfl ?_ ?_
                             rotate_left
                             · go_simp
                               rfl
                             refine hK.out _ _ ⟨((cell_far (p := ⟨gb614, _, none⟩) NB598_614.out _).trans (((cell_far (p := ⟨gb614, _, none⟩) NB598_614.out _).trans (hHeld.1)))), ((cell_far (p := ⟨gb614, _, none⟩) NB598_614.out _).trans (((cell_far (p := ⟨gb614, _, none⟩) NB598_614.out _).trans (hHeld.2.1)))), ((cell_far (p := ⟨gb614, _, none⟩) (by first | exact Kd.own_blk (Kd.R_away HO_40.out (fun _ hk => hk)) | (rw [add_block]; exact Kd.own_blk (Kd.R_away HO_40.out (fun _ hk => hk))) | (show (Addr.add _ _).block ≠ _; rw [add_block]; exact Kd.own_blk (Kd.R_away HO_40.out (fun _ hk => hk))) | (dsimp only; exact Kd.own_blk (Kd.R_away HO_40.out (fun _ hk => hk)))) _).trans (((cell_far (p := ⟨gb614, _, none⟩) (by first | exact Kd.own_blk (Kd.R_away HO_40.out (fun _ hk => hk)) | (rw [add_block]; exact Kd.own_blk (Kd.R_away HO_40.out (fun _ hk => hk))) | (show (Addr.add _ _).block ≠ _; rw [add_block]; exact Kd.own_blk (Kd.R_away HO_40.out (fun _ hk => hk))) | (dsimp only; exact Kd.own_blk (Kd.R_away HO_40.out (fun _ hk => hk)))) _).trans (hHeld.2.2.1)))), ((cell_far (p := ⟨gb614, _, none⟩) (by first | exact Kd.own_blk (Kd.R_away HO_40.out (fun _ hk => hk)) | (rw [add_block]; exact Kd.own_blk (Kd.R_away HO_40.out (fun _ hk => hk))) | (show (Addr.add _ _).block ≠ _; rw [add_block]; exact Kd.own_blk (Kd.R_away HO_40.out (fun _ hk => hk))) | (dsimp only; exact Kd.own_blk (Kd.R_away HO_40.out (fun _ hk => hk)))) _).trans (((cell_far (p := ⟨gb614, _, none⟩) (by first | exact Kd.own_blk (Kd.R_away HO_40.out (fun _ hk => hk)) | (rw [add_block]; exact Kd.own_blk (Kd.R_away HO_40.out (fun _ hk => hk))) | (show (Addr.add _ _).block ≠ _; rw [add_block]; exact Kd.own_blk (Kd.R_away HO_40.out (fun _ hk => hk))) | (dsimp only; exact Kd.own_blk (Kd.R_away HO_40.out (fun _ hk => hk)))) _).trans (hHeld.2.2.2))))⟩ (fun hHeld => ?_)
                             clear hK K
                             refine pure_ (i := 12) (N := some 46) (v := ?_) (a' := ?_) #[true, true, true, true, true, true, true, true, true, true, true, true, true] rfl rfl (any_of HT_.out (by kernel_rfl)) (fun _ _ _ h => h) (Or.inl ⟨by rfl, ?_⟩) ?_ ?_
                             rotate_left
                             · intro w'
                               go_simp
                               with_reducible rfl
                             rotate_left
                             · simp only [Act.put, List.setIfInBounds_toArray, List.set_cons_zero, List.set_cons_succ, i64_w, i32_w]
                               rfl
                             refine done_ (done_of HT_.out (by kernel_rfl)) ?_
                             try go_wp2
                             have n0_ : Aside0 (Kd.R k36 36 ((w128.setCell ⟨gb614, 0, none⟩ (.int .i64 t611)).setCell ⟨gb614, 1, none⟩ (.int .i64 t612)) w.heap.size (fun k_ => k_ ≠ gb614) (.slice (some ad610) t600.length co124) t600) := ⟨by (with_reducible repeat (first | apply Kd.R_alloc | apply Kd.R_drewN | apply Kd.R_drew)); exact Kd.R_mono (Kd.R_far (p := ⟨gb614, 1, none⟩) (Kd.R_far (p := ⟨gb614, 0, none⟩) (Kd.R_mono HO_40.out (fun k_ hk => (⟨hk, hk⟩ : _ ∧ k_ ≠ gb614))) (fun _ hk => hk.2) (.int .i64 t611)) (fun _ hk => hk.2) (.int .i64 t612)) (fun _ hk => hk.1)⟩
                             have n1_ : Aside0 (((w128.setCell ⟨gb614, 0, none⟩ (.int .i64 t611)).setCell ⟨gb614, 1, none⟩ (.int .i64 t612)).heap[gb598]? = some (.cells #[.string t593, .string t594] 25 (0, 0))) := ⟨by (with_reducible repeat (first | refine blk_drewN ?_ _ | refine blk_drew ?_ | refine blk_alloc ?_ _)); refine blk_far ?_ NB598_614.out _; (with_reducible repeat (first | refine blk_drewN ?_ _ | refine blk_drew ?_ | refine blk_alloc ?_ _)); refine blk_far ?_ NB598_614.out _; exact lb BK598.out⟩
                             have n2_ : Aside0 (((w128.setCell ⟨gb614, 0, none⟩ (.int .i64 t611)).setCell ⟨gb614, 1, none⟩ (.int .i64 t612)).heap[gb614]? = some (.cells #[.int .i64 t611, .int .i64 t612] 36 (0, 0))) := ⟨by (with_reducible repeat (first | refine blk_drewN ?_ _ | refine blk_drew ?_ | refine blk_alloc ?_ _)); refine blk_put (cs := #[.int .i64 t611, .int .i64 0]) ?_ 1 _ rfl; (with_reducible repeat (first | refine blk_drewN ?_ _ | refine blk_drew ?_ | refine blk_alloc ?_ _)); refine blk_put (cs := #[.int .i64 0, .int .i64 0]) ?_ 0 _ rfl; exact lb BK614.out⟩
                             have n3_ : Aside0 (Below w.heap.size w ((w128.setCell ⟨gb614, 0, none⟩ (.int .i64 t611)).setCell ⟨gb614, 1, none⟩ (.int .i64 t612))) := ⟨by exact lB HB.out⟩
                             (try clear HO_40)
                             (try clear BK598)
                             (try clear BK614)
                             (try clear HB)
                             generalize ((w128.setCell ⟨gb614, 0, none⟩ (.int .i64 t611)).setCell ⟨gb614, 1, none⟩ (.int .i64 t612)) = w131 at n0_ n1_ n2_ n3_ ⊢
                             have HO_40 := n0_
                             have BK598 := n1_
                             have BK614 := n2_
                             have HB := n3_
                             clear n0_ n1_ n2_ n3_
                             have n0_ := Aside0.mk (Kd.R_drew HO_40.out)
                             have n1_ := Aside0.mk (blk_drew BK598.out)
                             have n2_ := Aside0.mk (blk_drew BK614.out)
                             have n3_ := Aside0.mk (below_drew1 HB.out)
                             clear HO_40
                             clear BK598
                             clear BK614
                             clear HB
                             have HO_40 := n0_
                             have BK598 := n1_
                             have BK614 := n2_
                             have HB := n3_
                             clear n0_ n1_ n2_ n3_
                             have p615 : 0 ≤ (x44_5 : Int) := of_decide_eq_true (by first | (with_reducible assumption) | assumption)
                             have q615 : x44_5 < (t600.length : Int) := of_decide_eq_true (by first | (with_reducible assumption) | assumption)
                             obtain ⟨ad615, e615, hx615_0, hx615_1⟩ := at_T36 (Kd.R_reads' HO_40.out).2.2 x44_5 p615 q615
                             obtain rfl : ad610 = ad615 := (by injection e615)
                             replace p615 := eq_true p615
                             replace q615 := eq_true q615
                             have p616 : 0 ≤ ((ji118) : Int) := of_decide_eq_true (by first | (with_reducible assumption) | assumption)
                             have q616 : (ji118) < (t600.length : Int) := of_decide_eq_true (by first | (with_reducible assumption) | assumption)
                             obtain ⟨ad616, e616, hx616_0, hx616_1⟩ := at_T36 (Kd.R_reads' HO_40.out).2.2 (ji118) p616 q616
                             obtain rfl : ad610 = ad616 := (by injection e616)
                             replace p616 := eq_true p616
                             replace q616 := eq_true q616
                             have p617 : 0 ≤ ((ji110) : Int) := of_decide_eq_true (by first | (with_reducible assumption) | assumption)
                             have q617 : (ji110) < (t600.length : Int) := of_decide_eq_true (by first | (with_reducible assumption) | assumption)
                             obtain ⟨ad617, e617, hx617_0, hx617_1⟩ := at_T36 (Kd.R_reads' HO_40.out).2.2 (ji110) p617 q617
                             obtain rfl : ad610 = ad617 := (by injection e617)
                             replace p617 := eq_true p617
                             replace q617 := eq_true q617
                             have p619 : 0 ≤ ((ji110) : Int) := of_decide_eq_true (by first | (with_reducible assumption) | assumption)
                             have q619 : (ji110) < (t600.length : Int) := of_decide_eq_true (by first | (with_reducible assumption) | assumption)
                             obtain ⟨ad619, e619, hx619_0, hx619_1⟩ := at_T36 (Kd.R_reads' HO_40.out).2.2 (ji110) p619 q619
                             obtain rfl : ad610 = ad619 := (by injection e619)
                             replace p619 := eq_true p619
                             replace q619 := eq_true q619
                             have p620 : 0 ≤ (x44_5 : Int) := of_decide_eq_true (by first | (with_reducible assumption) | assumption)
                             have q620 : x44_5 < (t600.length : Int) := of_decide_eq_true (by first | (with_reducible assumption) | assumption)
                             obtain ⟨ad620, e620, hx620_0, hx620_1⟩ := at_T36 (Kd.R_reads' HO_40.out).2.2 x44_5 p620 q620
                             obtain rfl : ad610 = ad620 := (by injection e620)
                             replace p620 := eq_true p620
                             replace q620 := eq_true q620
                             refine start_ (n := 38) (S := fun w' => w'.cell? ⟨gb614, 0, none⟩ = some (.int .i64 t611) ∧ w'.cell? ⟨gb614, 1, none⟩ = some (.int .i64 t612) ∧ w'.cell? (ad610.add ((x44_5).toNat * 2)) = some (.int .i64 ((rd_T36 t600 x44_5).f0)) ∧ w'.cell? ⟨(ad610.add ((x44_5).toNat * 2)).block, (ad610.add ((x44_5).toNat * 2)).off + 1, none⟩ = some (.int .i64 ((rd_T36 t600 x44_5).f1)) ∧ w'.cell? (ad610.add (((ji118)).toNat * 2)) = some (.int .i64 ((rd_T36 t600 (ji118)).f0)) ∧ w'.cell? ⟨(ad610.add (((ji118)).toNat * 2)).block, (ad610.add (((ji118)).toNat * 2)).off + 1, none⟩ = some (.int .i64 ((rd_T36 t600 (ji118)).f1)) ∧ w'.cell? (ad610.add (((ji110)).toNat * 2)) = some (.int .i64 ((rd_T36 t600 (ji110)).f0)) ∧ w'.cell? ⟨(ad610.add (((ji110)).toNat * 2)).block, (ad610.add (((ji110)).toNat * 2)).off + 1, none⟩ = some (.int .i64 ((rd_T36 t600 (ji110)).f1)) ∧ w'.cell? (ad610.add (((ji110)).toNat * 2)) = some (.int .i64 ((rd_T36 t600 (ji110)).f0)) ∧ w'.cell? ⟨(ad610.add (((ji110)).toNat * 2)).block, (ad610.add (((ji110)).toNat * 2)).off + 1, none⟩ = some (.int .i64 ((rd_T36 t600 (ji110)).f1)) ∧ w'.cell? (ad610.add ((x44_5).toNat * 2)) = some (.int .i64 ((rd_T36 t600 x44_5).f0)) ∧ w'.cell? ⟨(ad610.add ((x44_5).toNat * 2)).block, (ad610.add ((x44_5).toNat * 2)).off + 1, none⟩ = some (.int .i64 ((rd_T36 t600 x44_5).f1))) (ds := []) #[false, false, false, false, false, false, false, false, false, false, false, false, false, false, false, false, false, false, false, false, false, false, false, false, false, false, false, false, false, false, false, false, false, false, false, false, false, false] (by kernel_rfl) rfl rfl ⟨(blk_cell BK614.out 0).trans rfl, (blk_cell BK614.out 1).trans rfl, hx615_0, hx615_1, hx616_0, hx616_1, hx617_0, hx617_1, hx619_0, hx619_1, hx620_0, hx620_1⟩ (fun hHeld => ?_); refine with_tabW laws_FnEndsAddUp.tab33 laws_FnEndsAddUp.bits33 (fun HT_ HW_ => ?_)
                             generalize w131.drew = w132 at HO_40 BK598 BK614 HB hx615_0 hx615_1 hx616_0 hx616_1 hx617_0 hx617_1 hx619_0 hx619_1 hx620_0 hx620_1 hHeld ⊢
                             refine pure_ (i := 0) (N := some 261) (v := ?_) (a' := ?_) #[true, false, false, false, false, false, false, false, false, false, false, false, false, false, false, false, false, false, false, false, false, false, false, false, false, false, false, false, false, false, false, false, false, false, false, false, false, false] rfl rfl (any_of HT_.out (by kernel_rfl)) (fun _ _ _ h => h) (Or.inl ⟨by rfl, ?_⟩) ?_ ?_
                             rotate_left
                             · intro w'
                               go_simp
                               with_reducible rfl
                             rotate_left
                             · simp only [Act.put, List.setIfInBounds_toArray, List.set_cons_zero, List.set_cons_succ, i64_w, i32_w]
                               rfl
                             refine pure_ (i := 1) (N := some 262) (v := ?_) (a' := ?_) #[true, true, false, false, false, false, false, false, false, false, false, false, false, false, false, false, false, false, false, false, false, false, false, false, false, false, false, false, false, false, false, false, false, false, false, false, false, false] rfl rfl (any_of HT_.out (by kernel_rfl)) (fun _ _ _ h => h) (Or.inl ⟨by rfl, ?_⟩) ?_ ?_
                             rotate_left
                             · intro w'
                               go_simp
                               with_reducible rfl
                             rotate_left
                             · simp only [Act.put, List.setIfInBounds_toArray, List.set_cons_zero, List.set_cons_succ, i64_w, i32_w]
                               rfl
                             refine pure_ (i := 2) (N := some 263) (v := ?_) (a' := ?_) #[true, true, true, false, false, false, false, false, false, false, false, false, false, false, false, false, false, false, false, false, false, false, false, false, false, false, false, false, false, false, false, false, false, false, false, false, false, false] rfl rfl (any_of HT_.out (by kernel_rfl)) (fun _ _ _ h => h) (Or.inl ⟨by rfl, ?_⟩) ?_ ?_
                             rotate_left
                             · intro w'
                               go_simp
                               with_reducible rfl
                             rotate_left
                             · simp only [Act.put, List.setIfInBounds_toArray, List.set_cons_zero, List.set_cons_succ, i64_w, i32_w]
                               rfl
                             refine pure_ (i := 4) (N := some 265) (v := ?_) (a' := ?_) #[true, true, true, false, true, false, false, false, false, false, false, false, false, false, false, false, false, false, false, false, false, false, false, false, false, false, false, false, false, false, false, false, false, false, false, false, false, false] rfl rfl (any_of HT_.out (by kernel_rfl)) (fun _ _ _ h => h) (Or.inl ⟨by rfl, ?_⟩) ?_ ?_
                             rotate_left
                             · intro w'
                               go_simp
                               with_reducible rfl
                             rotate_left
                             · simp only [Act.put, List.setIfInBounds_toArray, List.set_cons_zero, List.set_cons_succ, i64_w, i32_w]
                               rfl
                             refine pure_ (i := 5) (N := some 266) (v := ?_) (a' := ?_) #[true, true, true, false, true, true, false, false, false, false, false, false, false, false, false, false, false, false, false, false, false, false, false, false, false, false, false, false, false, false, false, false, false, false, false, false, false, false] rfl rfl (any_of HT_.out (by kernel_rfl)) (fun _ _ _ h => h) (Or.inl ⟨by rfl, ?_⟩) ?_ ?_
                             rotate_left
                             · intro w'
                               go_simp
                               with_reducible rfl
                             rotate_left
                             · simp only [Act.put, List.setIfInBounds_toArray, List.set_cons_zero, List.set_cons_succ, i64_w, i32_w]
                               rfl
                             refine pure_ (i := 6) (N := some 267) (v := ?_) (a' := ?_) #[true, true, true, false, true, true, true, false, false, false, false, false, false, false, false, false, false, false, false, false, false, false, false, false, false, false, false, false, false, false, false, false, false, false, false, false, false, false] rfl rfl (any_of HT_.out (by kernel_rfl)) (fun _ _ _ h => h) (Or.inl ⟨by rfl, ?_⟩) ?_ ?_
                             rotate_left
                             · intro w'
                               go_simp
                               with_reducible rfl
                             rotate_left
                             · simp only [Act.put, List.setIfInBounds_toArray, List.set_cons_zero, List.set_cons_succ, i64_w, i32_w]
                               rfl
                             refine take_ (i := 3) (N := some 264) (v := ?_) (a' := ?_) #[true, true, true, true, true, true, true, false, false, false, false, false, false, false, false, false, false, false, false, false, false, false, false, false, false, false, false, false, false, false, false, false, false, false, false, false, false, false] rfl rfl (take_ofW HT_.out HW_.out (by kernel_rfl)) (fun _ _ _ h => h) (Or.inl ⟨by rfl, ?_⟩) hHeld ?_ ?_
                             rotate_left
                             · rintro w' ⟨s0, s1, s2, s3, s4, s5, s6, s7, s8, s9, s10, s11⟩
                               go_simp
                               with_reducible rfl
                             rotate_left
                             · simp only [Act.put, List.setIfInBounds_toArray, List.set_cons_zero, List.set_cons_succ, i64_w, i32_w]
                               rfl
                             refine take_ (i := 7) (N := some 268) (v := ?_) (a' := ?_) #[true, true, true, true, true, true, true, true, false, false, false, false, false, false, false, false, false, false, false, false, false, false, false, false, false, false, false, false, false, false, false, false, false, false, false, false, false, false] rfl rfl (take_ofW HT_.out HW_.out (by kernel_rfl)) (fun _ _ _ h => h) (Or.inl ⟨by rfl, ?_⟩) hHeld ?_ ?_
                             rotate_left
                             · rintro w' ⟨s0, s1, s2, s3, s4, s5, s6, s7, s8, s9, s10, s11⟩
                               go_simp
                               with_reducible rfl
                             rotate_left
                             · simp only [Act.put, List.setIfInBounds_toArray, List.set_cons_zero, List.set_cons_succ, i64_w, i32_w]
                               rfl
                             refine pure_ (i := 8) (N := some 269) (v := ?_) (a' := ?_) #[true, true, true, true, true, true, true, true, true, false, false, false, false, false, false, false, false, false, false, false, false, false, false, false, false, false, false, false, false, false, false, false, false, false, false, false, false, false] rfl rfl (any_of HT_.out (by kernel_rfl)) (fun _ _ _ h => h) (Or.inl ⟨by rfl, ?_⟩) ?_ ?_
                             rotate_left
                             · intro w'
                               go_simp
                               with_reducible rfl
                             rotate_left
                             · simp only [Act.put, List.setIfInBounds_toArray, List.set_cons_zero, List.set_cons_succ, i64_w, i32_w]
                               rfl
                             refine pure_ (i := 9) (N := some 270) (v := ?_) (a' := ?_) #[true, true, true, true, true, true, true, true, true, true, false, false, false, false, false, false, false, false, false, false, false, false, false, false, false, false, false, false, false, false, false, false, false, false, false, false, false, false] rfl rfl (any_of HT_.out (by kernel_rfl)) (fun _ _ _ h => h) (Or.inl ⟨by rfl, ?_⟩) ?_ ?_
                             rotate_left
                             · intro w'
                               go_simp
                               with_reducible rfl
                             rotate_left
                             · simp only [Act.put, List.setIfInBounds_toArray, List.set_cons_zero, List.set_cons_succ, i64_w, i32_w]
                               rfl
                             refine pure_ (i := 10) (N := some 271) (v := ?_) (a' := ?_) #[true, true, true, true, true, true, true, true, true, true, true, false, false, false, false, false, false, false, false, false, false, false, false, false, false, false, false, false, false, false, false, false, false, false, false, false, false, false] rfl rfl (any_of HT_.out (by kernel_rfl)) (fun _ _ _ h => h) (Or.inl ⟨by rfl, ?_⟩) ?_ ?_
                             rotate_left
                             · intro w'
                               go_simp
                               with_reducible rfl
                             rotate_left
                             · simp only [Act.put, List.setIfInBounds_toArray, List.set_cons_zero, List.set_cons_succ, i64_w, i32_w]
                               rfl
                             refine pure_ (i := 11) (N := some 272) (v := ?_) (a' := ?_) #[true, true, true, true, true, true, true, true, true, true, true, true, false, false, false, false, false, false, false, false, false, false, false, false, false, false, false, false, false, false, false, false, false, false, false, false, false, false] rfl rfl (any_of HT_.out (by kernel_rfl)) (fun _ _ _ h => h) (Or.inl ⟨by rfl, ?_⟩) ?_ ?_
                             rotate_left
                             · intro w'
                               go_simp
                               with_reducible rfl
                             rotate_left
                             · simp only [Act.put, List.setIfInBounds_toArray, List.set_cons_zero, List.set_cons_succ, i64_w, i32_w]
                               rfl
                             refine pure_ (i := 12) (N := some 273) (v := ?_) (a' := ?_) #[true, true, true, true, true, true, true, true, true, true, true, true, true, false, false, false, false, false, false, false, false, false, false, false, false, false, false, false, false, false, false, false, false, false, false, false, false, false] rfl rfl (any_of HT_.out (by kernel_rfl)) (fun _ _ _ h => h) (Or.inl ⟨by rfl, ?_⟩) ?_ ?_
                             rotate_left
                             · intro w'
                               go_simp
                               with_reducible rfl
                             rotate_left
                             · simp only [Act.put, List.setIfInBounds_toArray, List.set_cons_zero, List.set_cons_succ, i64_w, i32_w]
                               rfl
                             refine pure_ (i := 13) (N := some 274) (v := ?_) (a' := ?_) #[true, true, true, true, true, true, true, true, true, true, true, true, true, true, false, false, false, false, false, false, false, false, false, false, false, false, false, false, false, false, false, false, false, false, false, false, false, false] rfl rfl (any_of HT_.out (by kernel_rfl)) (fun _ _ _ h => h) (Or.inl ⟨by rfl, ?_⟩) ?_ ?_
                             rotate_left
                             · intro w'
                               go_simp
                               with_reducible rfl
                             rotate_left
                             · simp only [Act.put, List.setIfInBounds_toArray, List.set_cons_zero, List.set_cons_succ, i64_w, i32_w]
                               rfl
                             refine pure_ (i := 14) (N := some 275) (v := ?_) (a' := ?_) #[true, true, true, true, true, true, true, true, true, true, true, true, true, true, true, false, false, false, false, false, false, false, false, false, false, false, false, false, false, false, false, false, false, false, false, false, false, false] rfl rfl (any_of HT_.out (by kernel_rfl)) (fun _ _ _ h => h) (Or.inl ⟨by rfl, ?_⟩) ?_ ?_
                             rotate_left
                             · intro w'
                               go_simp
                               with_reducible rfl
                             rotate_left
                             · simp only [Act.put, List.setIfInBounds_toArray, List.set_cons_zero, List.set_cons_succ, i64_w, i32_w]
                               rfl
                             refine pure_ (i := 15) (N := some 276) (v := ?_) (a' := ?_) #[true, true, true, true, true, true, true, true, true, true, true, true, true, true, true, true, false, false, false, false, false, false, false, false, false, false, false, false, false, false, false, false, false, false, false, false, false, false] rfl rfl (any_of HT_.out (by kernel_rfl)) (fun _ _ _ h => h) (Or.inl ⟨by rfl, ?_⟩) ?_ ?_
                             rotate_left
                             · intro w'
                               go_simp
                               with_reducible rfl
                             rotate_left
                             · simp only [Act.put, List.setIfInBounds_toArray, List.set_cons_zero, List.set_cons_succ, i64_w, i32_w]
                               rfl
                             refine pure_ (i := 16) (N := some 277) (v := ?_) (a' := ?_) #[true, true, true, true, true, true, true, true, true, true, true, true, true, true, true, true, true, false, false, false, false, false, false, false, false, false, false, false, false, false, false, false, false, false, false, false, false, false] rfl rfl (any_of HT_.out (by kernel_rfl)) (fun _ _ _ h => h) (Or.inl ⟨by rfl, ?_⟩) ?_ ?_
                             rotate_left
                             · intro w'
                               go_simp
                               with_reducible rfl
                             rotate_left
                             · simp only [Act.put, List.setIfInBounds_toArray, List.set_cons_zero, List.set_cons_succ, i64_w, i32_w]
                               rfl
                             refine pure_ (i := 17) (N := some 278) (v := ?_) (a' := ?_) #[true, true, true, true, true, true, true, true, true, true, true, true, true, true, true, true, true, true, false, false, false, false, false, false, false, false, false, false, false, false, false, false, false, false, false, false, false, false] rfl rfl (any_of HT_.out (by kernel_rfl)) (fun _ _ _ h => h) (Or.inl ⟨by rfl, ?_⟩) ?_ ?_
                             rotate_left
                             · intro w'
                               go_simp
                               with_reducible rfl
                             rotate_left
                             · simp only [Act.put, List.setIfInBounds_toArray, List.set_cons_zero, List.set_cons_succ, i64_w, i32_w]
                               rfl
                             refine pure_ (i := 19) (N := some 280) (v := ?_) (a' := ?_) #[true, true, true, true, true, true, true, true, true, true, true, true, true, true, true, true, true, true, false, true, false, false, false, false, false, false, false, false, false, false, false, false, false, false, false, false, false, false] rfl rfl (any_of HT_.out (by kernel_rfl)) (fun _ _ _ h => h) (Or.inl ⟨by rfl, ?_⟩) ?_ ?_
                             rotate_left
                             · intro w'
                               go_simp
                               with_reducible rfl
                             rotate_left
                             · simp only [Act.put, List.setIfInBounds_toArray, List.set_cons_zero, List.set_cons_succ, i64_w, i32_w]
                               rfl
                             refine pure_ (i := 20) (N := some 281) (v := ?_) (a' := ?_) #[true, true, true, true, true, true, true, true, true, true, true, true, true, true, true, true, true, true, false, true, true, false, false, false, false, false, false, false, false, false, false, false, false, false, false, false, false, false] rfl rfl (any_of HT_.out (by kernel_rfl)) (fun _ _ _ h => h) (Or.inl ⟨by rfl, ?_⟩) ?_ ?_
                             rotate_left
                             · intro w'
                               go_simp
                               with_reducible rfl
                             rotate_left
                             · simp only [Act.put, List.setIfInBounds_toArray, List.set_cons_zero, List.set_cons_succ, i64_w, i32_w]
                               rfl
                             refine pure_ (i := 21) (N := some 282) (v := ?_) (a' := ?_) #[true, true, true, true, true, true, true, true, true, true, true, true, true, true, true, true, true, true, false, true, true, true, false, false, false, false, false, false, false, false, false, false, false, false, false, false, false, false] rfl rfl (any_of HT_.out (by kernel_rfl)) (fun _ _ _ h => h) (Or.inl ⟨by rfl, ?_⟩) ?_ ?_
                             rotate_left
                             · intro w'
                               go_simp
                               with_reducible rfl
                             rotate_left
                             · simp only [Act.put, List.setIfInBounds_toArray, List.set_cons_zero, List.set_cons_succ, i64_w, i32_w]
                               rfl
                             refine pure_ (i := 22) (N := some 283) (v := ?_) (a' := ?_) #[true, true, true, true, true, true, true, true, true, true, true, true, true, true, true, true, true, true, false, true, true, true, true, false, false, false, false, false, false, false, false, false, false, false, false, false, false, false] rfl rfl (any_of HT_.out (by kernel_rfl)) (fun _ _ _ h => h) (Or.inl ⟨by rfl, ?_⟩) ?_ ?_
                             rotate_left
                             · intro w'
                               go_simp
                               with_reducible rfl
                             rotate_left
                             · simp only [Act.put, List.setIfInBounds_toArray, List.set_cons_zero, List.set_cons_succ, i64_w, i32_w]
                               rfl
                             refine pure_ (i := 25) (N := some 286) (v := ?_) (a' := ?_) #[true, true, true, true, true, true, true, true, true, true, true, true, true, true, true, true, true, true, false, true, true, true, true, false, false, true, false, false, false, false, false, false, false, false, false, false, false, false] rfl rfl (any_of HT_.out (by kernel_rfl)) (fun _ _ _ h => h) (Or.inl ⟨by rfl, ?_⟩) ?_ ?_
                             rotate_left
                             · intro w'
                               go_simp
                               with_reducible rfl
                             rotate_left
                             · simp only [Act.put, List.setIfInBounds_toArray, List.set_cons_zero, List.set_cons_succ, i64_w, i32_w]
                               rfl
                             refine pure_ (i := 26) (N := some 287) (v := ?_) (a' := ?_) #[true, true, true, true, true, true, true, true, true, true, true, true, true, true, true, true, true, true, false, true, true, true, true, false, false, true, true, false, false, false, false, false, false, false, false, false, false, false] rfl rfl (any_of HT_.out (by kernel_rfl)) (fun _ _ _ h => h) (Or.inl ⟨by rfl, ?_⟩) ?_ ?_
                             rotate_left
                             · intro w'
                               go_simp
                               with_reducible rfl
                             rotate_left
                             · simp only [Act.put, List.setIfInBounds_toArray, List.set_cons_zero, List.set_cons_succ, i64_w, i32_w]
                               rfl
                             refine pure_ (i := 27) (N := some 288) (v := ?_) (a' := ?_) #[true, true, true, true, true, true, true, true, true, true, true, true, true, true, true, true, true, true, false, true, true, true, true, false, false, true, true, true, false, false, false, false, false, false, false, false, false, false] rfl rfl (any_of HT_.out (by kernel_rfl)) (fun _ _ _ h => h) (Or.inl ⟨by rfl, ?_⟩) ?_ ?_
                             rotate_left
                             · intro w'
                               go_simp
                               with_reducible rfl
                             rotate_left
                             · simp only [Act.put, List.setIfInBounds_toArray, List.set_cons_zero, List.set_cons_succ, i64_w, i32_w]
                               rfl
                             refine pure_ (i := 28) (N := some 289) (v := ?_) (a' := ?_) #[true, true, true, true, true, true, true, true, true, true, true, true, true, true, true, true, true, true, false, true, true, true, true, false, false, true, true, true, true, false, false, false, false, false, false, false, false, false] rfl rfl (any_of HT_.out (by kernel_rfl)) (fun _ _ _ h => h) (Or.inl ⟨by rfl, ?_⟩) ?_ ?_
                             rotate_left
                             · intro w'
                               go_simp
                               with_reducible rfl
                             rotate_left
                             · simp only [Act.put, List.setIfInBounds_toArray, List.set_cons_zero, List.set_cons_succ, i64_w, i32_w]
                               rfl
                             refine pure_ (i := 30) (N := some 291) (v := ?_) (a' := ?_) #[true, true, true, true, true, true, true, true, true, true, true, true, true, true, true, true, true, true, false, true, true, true, true, false, false, true, true, true, true, false, true, false, false, false, false, false, false, false] rfl rfl (any_of HT_.out (by kernel_rfl)) (fun _ _ _ h => h) (Or.inl ⟨by rfl, ?_⟩) ?_ ?_
                             rotate_left
                             · intro w'
                               go_simp
                               with_reducible rfl
                             rotate_left
                             · simp only [Act.put, List.setIfInBounds_toArray, List.set_cons_zero, List.set_cons_succ, i64_w, i32_w]
                               rfl
                             refine pure_ (i := 31) (N := some 292) (v := ?_) (a' := ?_) #[true, true, true, true, true, true, true, true, true, true, true, true, true, true, true, true, true, true, false, true, true, true, true, false, false, true, true, true, true, false, true, true, false, false, false, false, false, false] rfl rfl (any_of HT_.out (by kernel_rfl)) (fun _ _ _ h => h) (Or.inl ⟨by rfl, ?_⟩) ?_ ?_
                             rotate_left
                             · intro w'
                               go_simp
                               with_reducible rfl
                             rotate_left
                             · simp only [Act.put, List.setIfInBounds_toArray, List.set_cons_zero, List.set_cons_succ, i64_w, i32_w]
                               rfl
                             refine pure_ (i := 32) (N := some 293) (v := ?_) (a' := ?_) #[true, true, true, true, true, true, true, true, true, true, true, true, true, true, true, true, true, true, false, true, true, true, true, false, false, true, true, true, true, false, true, true, true, false, false, false, false, false] rfl rfl (any_of HT_.out (by kernel_rfl)) (fun _ _ _ h => h) (Or.inl ⟨by rfl, ?_⟩) ?_ ?_
                             rotate_left
                             · intro w'
                               go_simp
                               with_reducible rfl
                             rotate_left
                             · simp only [Act.put, List.setIfInBounds_toArray, List.set_cons_zero, List.set_cons_succ, i64_w, i32_w]
                               rfl
                             refine take_ (i := 18) (N := some 279) (v := ?_) (a' := ?_) #[true, true, true, true, true, true, true, true, true, true, true, true, true, true, true, true, true, true, true, true, true, true, true, false, false, true, true, true, true, false, true, true, true, false, false, false, false, false] rfl rfl (take_ofW HT_.out HW_.out (by kernel_rfl)) (fun _ _ _ h => h) (Or.inl ⟨by rfl, ?_⟩) hHeld ?_ ?_
                             rotate_left
                             · rintro w' ⟨s0, s1, s2, s3, s4, s5, s6, s7, s8, s9, s10, s11⟩
                               go_simp
                               with_reducible rfl
                             rotate_left
                             · simp only [Act.put, List.setIfInBounds_toArray, List.set_cons_zero, List.set_cons_succ, i64_w, i32_w]
                               rfl
                             refine take_ (i := 23) (N := some 284) (v := ?_) (a' := ?_) #[true, true, true, true, true, true, true, true, true, true, true, true, true, true, true, true, true, true, true, true, true, true, true, true, false, true, true, true, true, false, true, true, true, false, false, false, false, false] rfl rfl (take_ofW HT_.out HW_.out (by kernel_rfl)) (fun _ _ _ h => h) (Or.inl ⟨by rfl, ?_⟩) hHeld ?_ ?_
                             rotate_left
                             · rintro w' ⟨s0, s1, s2, s3, s4, s5, s6, s7, s8, s9, s10, s11⟩
                               go_simp
                               with_reducible rfl
                             rotate_left
                             · simp only [Act.put, List.setIfInBounds_toArray, List.set_cons_zero, List.set_cons_succ, i64_w, i32_w]
                               rfl
                             refine take_ (i := 29) (N := some 290) (v := ?_) (a' := ?_) #[true, true, true, true, true, true, true, true, true, true, true, true, true, true, true, true, true, true, true, true, true, true, true, true, false, true, true, true, true, true, true, true, true, false, false, false, false, false] rfl rfl (take_ofW HT_.out HW_.out (by kernel_rfl)) (fun _ _ _ h => h) (Or.inl ⟨by rfl, ?_⟩) hHeld ?_ ?_
                             rotate_left
                             · rintro w' ⟨s0, s1, s2, s3, s4, s5, s6, s7, s8, s9, s10, s11⟩
                               go_simp
                               with_reducible rfl
                             rotate_left
                             · simp only [Act.put, List.setIfInBounds_toArray, List.set_cons_zero, List.set_cons_succ, i64_w, i32_w]
                               rfl
                             refine take_ (i := 33) (N := some 294) (v := ?_) (a' := ?_) #[true, true, true, true, true, true, true, true, true, true, true, true, true, true, true, true, true, true, true, true, true, true, true, true, false, true, true, true, true, true, true, true, true, true, false, false, false, false] rfl rfl (take_ofW HT_.out HW_.out (by kernel_rfl)) (fun _ _ _ h => h) (Or.inl ⟨by rfl, ?_⟩) hHeld ?_ ?_
                             rotate_left
                             · rintro w' ⟨s0, s1, s2, s3, s4, s5, s6, s7, s8, s9, s10, s11⟩
                               go_simp
                               with_reducible rfl
                             rotate_left
                             · simp only [Act.put, List.setIfInBounds_toArray, List.set_cons_zero, List.set_cons_succ, i64_w, i32_w]
                               rfl
                             refine one_ (i := 24) (N := some 285) #[true, true, true, true, true, true, true, true, true, true, true, true, true, true, true, true, true, true, true, true, true, true, true, true, true, true, true, true, true, true, true, true, true, true, false, false, false, false] rfl rfl (one_of HT_.out (by kernel_rfl)) (by decide) (fun K hK => ?_)
                             refine goes_ Try.func24 (by kernel_rfl) rfl #[.agg #[.int .i64 ((rd_T36 t600 (ji118)).f0), .int .i64 ((rd_T36 t600 (ji118)).f1)], .agg #[.int .i64 ((rd_T36 t600 (ji110)).f0), .int .i64 ((rd_T36 t600 (ji110)).f1)]] (by rfl) rfl rfl (by (try simp only [List.map_toArray, List.map_cons, List.map_nil]); first | done | (simp only [hji110, hji118]; rfl) | rfl | (simp only [List.length_drop, List.length_take]; rfl)) ?_
                             with_reducible refine (laws_fLess.calls ((rd_T36 t600 (ji118)).f0) ((rd_T36 t600 (ji118)).f1) ((rd_T36 t600 (ji110)).f0) ((rd_T36 t600 (ji110)).f1) t618 _ A121.out).mono ?_
                             rintro e w133 ⟨rfl, hb⟩
                             have HS2_ := (hb.cell (World.block_lt_of_cell? _ _ (hHeld.2.2.1))).trans (hHeld.2.2.1)
                             have HS3_ := (hb.cell (World.block_lt_of_cell? _ _ (hHeld.2.2.2.1))).trans (hHeld.2.2.2.1)
                             have HS4_ := (hb.cell (World.block_lt_of_cell? _ _ (hHeld.2.2.2.2.1))).trans (hHeld.2.2.2.2.1)
                             have HS5_ := (hb.cell (World.block_lt_of_cell? _ _ (hHeld.2.2.2.2.2.1))).trans (hHeld.2.2.2.2.2.1)
                             have HS6_ := (hb.cell (World.block_lt_of_cell? _ _ (hHeld.2.2.2.2.2.2.1))).trans (hHeld.2.2.2.2.2.2.1)
                             have HS7_ := (hb.cell (World.block_lt_of_cell? _ _ (hHeld.2.2.2.2.2.2.2.1))).trans (hHeld.2.2.2.2.2.2.2.1)
                             have HS8_ := (hb.cell (World.block_lt_of_cell? _ _ (hHeld.2.2.2.2.2.2.2.2.1))).trans (hHeld.2.2.2.2.2.2.2.2.1)
                             have HS9_ := (hb.cell (World.block_lt_of_cell? _ _ (hHeld.2.2.2.2.2.2.2.2.2.1))).trans (hHeld.2.2.2.2.2.2.2.2.2.1)
                             have HS10_ := (hb.cell (World.block_lt_of_cell? _ _ (hHeld.2.2.2.2.2.2.2.2.2.2.1))).trans (hHeld.2.2.2.2.2.2.2.2.2.2.1)
                             have HS11_ := (hb.cell (World.block_lt_of_cell? _ _ (hHeld.2.2.2.2.2.2.2.2.2.2.2))).trans (hHeld.2.2.2.2.2.2.2.2.2.2.2)
                             refine ⟨_, rfl, ?_⟩
                             have n0_ := Aside0.mk (Kd.R_below (by (with_reducible repeat (first | apply Kd.R_alloc | apply Kd.R_drewN | apply Kd.R_drew)); exact HO_40.out) hb)
                             have n1_ := Aside0.mk (blk_below (lb BK598.out) hb)
                             have n2_ := Aside0.mk (blk_below (lb BK614.out) hb)
                             have n3_ := Aside0.mk (below_step (lB HB.out) hb)
                             clear HO_40
                             clear BK598
                             clear BK614
                             clear HB
                             have HO_40 := n0_
                             have BK598 := n1_
                             have BK614 := n2_
                             have HB := n3_
                             clear n0_ n1_ n2_ n3_
                             (try clear hb)
                             (try clear hk)
                             refine hK.out _ _ ⟨(blk_cell BK614.out 0).trans rfl, (blk_cell BK614.out 1).trans rfl, HS2_, HS3_, HS4_, HS5_, HS6_, HS7_, HS8_, HS9_, HS10_, HS11_⟩ (fun hHeld => ?_)
                             clear hK K
                             refine norm_ (a' := ?_) ?_ ?_
                             rotate_left
                             · show Act.put _ (some 285) _ = _
                               simp only [Act.put, List.setIfInBounds_toArray, List.set_cons_zero, List.set_cons_succ, i64_w, i32_w]
                               rfl
                             refine one_ (i := 34) (N := some 295) #[true, true, true, true, true, true, true, true, true, true, true, true, true, true, true, true, true, true, true, true, true, true, true, true, true, true, true, true, true, true, true, true, true, true, true, false, false, false] rfl rfl (one_of HT_.out (by kernel_rfl)) (by decide) (fun K hK => ?_)
                             refine goes_ Try.func24 (by kernel_rfl) rfl #[.agg #[.int .i64 ((rd_T36 t600 (ji110)).f0), .int .i64 ((rd_T36 t600 (ji110)).f1)], .agg #[.int .i64 ((rd_T36 t600 x44_5).f0), .int .i64 ((rd_T36 t600 x44_5).f1)]] (by rfl) rfl rfl (by (try simp only [List.map_toArray, List.map_cons, List.map_nil]); first | done | (simp only [hji110]; rfl) | rfl | (simp only [List.length_drop, List.length_take]; rfl)) ?_
                             with_reducible refine (laws_fLess.calls ((rd_T36 t600 (ji110)).f0) ((rd_T36 t600 (ji110)).f1) ((rd_T36 t600 x44_5).f0) ((rd_T36 t600 x44_5).f1) t621 _ A122.out).mono ?_
                             rintro e w134 ⟨rfl, hb⟩
                             have HS2_ := (hb.cell (World.block_lt_of_cell? _ _ (hHeld.2.2.1))).trans (hHeld.2.2.1)
                             have HS3_ := (hb.cell (World.block_lt_of_cell? _ _ (hHeld.2.2.2.1))).trans (hHeld.2.2.2.1)
                             have HS4_ := (hb.cell (World.block_lt_of_cell? _ _ (hHeld.2.2.2.2.1))).trans (hHeld.2.2.2.2.1)
                             have HS5_ := (hb.cell (World.block_lt_of_cell? _ _ (hHeld.2.2.2.2.2.1))).trans (hHeld.2.2.2.2.2.1)
                             have HS6_ := (hb.cell (World.block_lt_of_cell? _ _ (hHeld.2.2.2.2.2.2.1))).trans (hHeld.2.2.2.2.2.2.1)
                             have HS7_ := (hb.cell (World.block_lt_of_cell? _ _ (hHeld.2.2.2.2.2.2.2.1))).trans (hHeld.2.2.2.2.2.2.2.1)
                             have HS8_ := (hb.cell (World.block_lt_of_cell? _ _ (hHeld.2.2.2.2.2.2.2.2.1))).trans (hHeld.2.2.2.2.2.2.2.2.1)
                             have HS9_ := (hb.cell (World.block_lt_of_cell? _ _ (hHeld.2.2.2.2.2.2.2.2.2.1))).trans (hHeld.2.2.2.2.2.2.2.2.2.1)
                             have HS10_ := (hb.cell (World.block_lt_of_cell? _ _ (hHeld.2.2.2.2.2.2.2.2.2.2.1))).trans (hHeld.2.2.2.2.2.2.2.2.2.2.1)
                             have HS11_ := (hb.cell (World.block_lt_of_cell? _ _ (hHeld.2.2.2.2.2.2.2.2.2.2.2))).trans (hHeld.2.2.2.2.2.2.2.2.2.2.2)
                             refine ⟨_, rfl, ?_⟩
                             have n0_ := Aside0.mk (Kd.R_below (by (with_reducible repeat (first | apply Kd.R_alloc | apply Kd.R_drewN | apply Kd.R_drew)); exact HO_40.out) hb)
                             have n1_ := Aside0.mk (blk_below (lb BK598.out) hb)
                             have n2_ := Aside0.mk (blk_below (lb BK614.out) hb)
                             have n3_ := Aside0.mk (below_step (lB HB.out) hb)
                             clear HO_40
                             clear BK598
                             clear BK614
                             clear HB
                             have HO_40 := n0_
                             have BK598 := n1_
                             have BK614 := n2_
                             have HB := n3_
                             clear n0_ n1_ n2_ n3_
                             (try clear hb)
                             refine hK.out _ _ ⟨(blk_cell BK614.out 0).trans rfl, (blk_cell BK614.out 1).trans rfl, HS2_, HS3_, HS4_, HS5_, HS6_, HS7_, HS8_, HS9_, HS10_, HS11_⟩ (fun hHeld => ?_)
                             clear hK K
                             refine norm_ (a' := ?_) ?_ ?_
                             rotate_left
                             · show Act.put _ (some 295) _ = _
                               simp only [Act.put, List.setIfInBounds_toArray, List.set_cons_zero, List.set_cons_succ, i64_w, i32_w]
                               rfl
                             refine pure_ (i := 35) (N := some 296) (v := ?_) (a' := ?_) #[true, true, true, true, true, true, true, true, true, true, true, true, true, true, true, true, true, true, true, true, true, true, true, true, true, true, true, true, true, true, true, true, true, true, true, true, false, false] rfl rfl (any_of HT_.out (by kernel_rfl)) (fun _ _ _ h => h) (Or.inl ⟨by rfl, ?_⟩) ?_ ?_
                             rotate_left
                             · intro w'
                               go_simp
                               with_reducible rfl
                             rotate_left
                             · simp only [Act.put, List.setIfInBounds_toArray, List.set_cons_zero, List.set_cons_succ, i64_w, i32_w]
                               rfl
                             refine pure_ (i := 36) (N := some 297) (v := ?_) (a' := ?_) #[true, true, true, true, true, true, true, true, true, true, true, true, true, true, true, true, true, true, true, true, true, true, true, true, true, true, true, true, true, true, true, true, true, true, true, true, true, false] rfl rfl (any_of HT_.out (by kernel_rfl)) (fun _ _ _ h => h) (Or.inl ⟨by rfl, ?_⟩) ?_ ?_
                             rotate_left
                             · intro w'
                               go_simp
                               with_reducible rfl
                             rotate_left
                             · simp only [Act.put, List.setIfInBounds_toArray, List.set_cons_zero, List.set_cons_succ, i64_w, i32_w]
                               rfl
                             refine pure_ (i := 37) (N := some 298) (v := ?_) (a' := ?_) #[true, true, true, true, true, true, true, true, true, true, true, true, true, true, true, true, true, true, true, true, true, true, true, true, true, true, true, true, true, true, true, true, true, true, true, true, true, true] rfl rfl (any_of HT_.out (by kernel_rfl)) (fun _ _ _ h => h) (Or.inl ⟨by rfl, ?_⟩) ?_ ?_
                             rotate_left
                             · intro w'
                               go_simp
                               with_reducible rfl
                             rotate_left
                             · simp only [Act.put, List.setIfInBounds_toArray, List.set_cons_zero, List.set_cons_succ, i64_w, i32_w]
                               rfl
                             refine done_ (done_of HT_.out (by kernel_rfl)) ?_
                             try go_wp2
                             go_roundg k5
                             case measure => have := HJ8.out; have := HJ40.out; have := HJ66.out; have := HJ100.out; have := HK5.out; omega
                             case rel => exact ⟨(wrap64 (x44_5 + 1)), (by first | rfl | (simp; done) | (simp [*]; done)), H', ⟨by have := HJ8.out; have := HJ40.out; have := HJ66.out; have := HJ100.out; have := HK5.out; omega⟩, ⟨by (with_reducible repeat (first | apply Kd.R_alloc | apply Kd.R_drewN | apply Kd.R_drew)); exact Kd.R_mono HO_40.out (fun _ hk => trivial)⟩, ⟨lb BK598.out⟩, ⟨by exact lB HB.out⟩⟩
                         · rw [if_neg c120] at H
                           exact absurd H (by simp)
                       · rw [if_neg c119] at H
                         exact absurd H (by simp)
                     · rw [if_neg c117] at H
                       have c117b0 : decide (1 < x44_5) = false := decide_eq_false c117
                       clear c117
                       have H' := Aside0.mk H
                       clear H
                       obtain ⟨Ao135, co135, eo135⟩ := Kd.R_slice HO_40.out
                       subst eo135
                       try go_wp2
                       have n0_ := Aside0.mk (Kd.R_drew HO_40.out)
                       have n1_ := Aside0.mk (blk_drew BK598.out)
                       have n2_ := Aside0.mk (below_drew1 HB.out)
                       clear HO_40
                       clear BK598
                       clear HB
                       have HO_40 := n0_
                       have BK598 := n1_
                       have HB := n2_
                       clear n0_ n1_ n2_
                       have p610 : 0 ≤ ((ji110) : Int) := of_decide_eq_true (by first | (with_reducible assumption) | assumption)
                       have q610 : (ji110) < (t600.length : Int) := of_decide_eq_true (by first | (with_reducible assumption) | assumption)
                       obtain ⟨ad610, e610, hx610_0, hx610_1⟩ := at_T36 (Kd.R_reads' HO_40.out).2.2 (ji110) p610 q610
                       cases e610
                       replace p610 := eq_true p610
                       replace q610 := eq_true q610
                       refine start_ (n := 13) (S := fun w' => w'.cell? ⟨gb598, 0, none⟩ = some (.string t593) ∧ w'.cell? ⟨gb598, 1, none⟩ = some (.string t594) ∧ w'.cell? (ad610.add (((ji110)).toNat * 2)) = some (.int .i64 ((rd_T36 t600 (ji110)).f0)) ∧ w'.cell? ⟨(ad610.add (((ji110)).toNat * 2)).block, (ad610.add (((ji110)).toNat * 2)).off + 1, none⟩ = some (.int .i64 ((rd_T36 t600 (ji110)).f1))) (ds := []) #[false, false, false, false, false, false, false, false, false, false, false, false, false] (by kernel_rfl) rfl rfl ⟨(blk_cell BK598.out 0).trans rfl, (blk_cell BK598.out 1).trans rfl, hx610_0, hx610_1⟩ (fun hHeld => ?_); refine with_tabW laws_FnEndsAddUp.tab32 laws_FnEndsAddUp.bits32 (fun HT_ HW_ => ?_)
                       generalize wr.drew = w136 at HO_40 BK598 HB hx610_0 hx610_1 hHeld ⊢
                       refine pure_ (i := 1) (N := some 253) (v := ?_) (a' := ?_) #[false, true, false, false, false, false, false, false, false, false, false, false, false] rfl rfl (any_of HT_.out (by kernel_rfl)) (fun _ _ _ h => h) (Or.inl ⟨by rfl, ?_⟩) ?_ ?_
                       rotate_left
                       · intro w'
                         go_simp
                         with_reducible rfl
                       rotate_left
                       · simp only [Act.put, List.setIfInBounds_toArray, List.set_cons_zero, List.set_cons_succ, i64_w, i32_w]
                         rfl
                       refine pure_ (i := 2) (N := some 254) (v := ?_) (a' := ?_) #[false, true, true, false, false, false, false, false, false, false, false, false, false] rfl rfl (any_of HT_.out (by kernel_rfl)) (fun _ _ _ h => h) (Or.inl ⟨by rfl, ?_⟩) ?_ ?_
                       rotate_left
                       · intro w'
                         go_simp
                         with_reducible rfl
                       rotate_left
                       · simp only [Act.put, List.setIfInBounds_toArray, List.set_cons_zero, List.set_cons_succ, i64_w, i32_w]
                         rfl
                       refine pure_ (i := 3) (N := some 255) (v := ?_) (a' := ?_) #[false, true, true, true, false, false, false, false, false, false, false, false, false] rfl rfl (any_of HT_.out (by kernel_rfl)) (fun _ _ _ h => h) (Or.inl ⟨by rfl, ?_⟩) ?_ ?_
                       rotate_left
                       · intro w'
                         go_simp
                         with_reducible rfl
                       rotate_left
                       · simp only [Act.put, List.setIfInBounds_toArray, List.set_cons_zero, List.set_cons_succ, i64_w, i32_w]
                         rfl
                       refine pure_ (i := 4) (N := some 256) (v := ?_) (a' := ?_) #[false, true, true, true, true, false, false, false, false, false, false, false, false] rfl rfl (any_of HT_.out (by kernel_rfl)) (fun _ _ _ h => h) (Or.inl ⟨by rfl, ?_⟩) ?_ ?_
                       rotate_left
                       · intro w'
                         go_simp
                         with_reducible rfl
                       rotate_left
                       · simp only [Act.put, List.setIfInBounds_toArray, List.set_cons_zero, List.set_cons_succ, i64_w, i32_w]
                         rfl
                       refine take_ (i := 0) (N := some 252) (v := ?_) (a' := ?_) #[true, true, true, true, true, false, false, false, false, false, false, false, false] rfl rfl (take_ofW HT_.out HW_.out (by kernel_rfl)) (fun _ _ _ h => h) (Or.inl ⟨by rfl, ?_⟩) hHeld ?_ ?_
                       rotate_left
                       · rintro w' ⟨s0, s1, s2, s3⟩
                         go_simp
                         with_reducible rfl
                       rotate_left
                       · simp only [Act.put, List.setIfInBounds_toArray, List.set_cons_zero, List.set_cons_succ, i64_w, i32_w]
                         rfl
                       refine take_ (i := 5) (N := some 257) (v := ?_) (a' := ?_) #[true, true, true, true, true, true, false, false, false, false, false, false, false] rfl rfl (take_ofW HT_.out HW_.out (by kernel_rfl)) (fun _ _ _ h => h) (Or.inl ⟨by rfl, ?_⟩) hHeld ?_ ?_
                       rotate_left
                       · rintro w' ⟨s0, s1, s2, s3⟩
                         go_simp
                         with_reducible rfl
                       rotate_left
                       · simp only [Act.put, List.setIfInBounds_toArray, List.set_cons_zero, List.set_cons_succ, i64_w, i32_w]
                         rfl
                       refine join_ (σ := Nat) 2 #[true, true, true, true, true, true, true, true, true, true, true, false, false] (fun s_ => [(258, .tuple #[.agg #[.int .i64 t611, .int .i64 t612], .bool true]), (45, .pointer (some ⟨s_, 0, none⟩)), (251, .tuple #[.agg #[.int .i64 t611, .int .i64 t612], .bool true]), (259, .agg #[.int .i64 t611, .int .i64 t612]), (260, .bool true)]) (fun s_ w' => (w'.cell? ⟨gb598, 0, none⟩ = some (.string t593) ∧ w'.cell? ⟨gb598, 1, none⟩ = some (.string t594) ∧ w'.cell? (ad610.add (((ji110)).toNat * 2)) = some (.int .i64 ((rd_T36 t600 (ji110)).f0)) ∧ w'.cell? ⟨(ad610.add (((ji110)).toNat * 2)).block, (ad610.add (((ji110)).toNat * 2)).off + 1, none⟩ = some (.int .i64 ((rd_T36 t600 (ji110)).f1))) ∧ (Kd.R k36 36 w' w.heap.size (fun k_ => k_ ≠ s_) (.slice (some ad610) t600.length co135) t600) ∧ (w'.heap[gb598]? = some (.cells #[.string t593, .string t594] 25 (0, 0))) ∧ (w'.heap[s_]? = some (.cells #[.int .i64 0, .int .i64 0] 36 (0, 0))) ∧ (w.heap.size ≤ s_) ∧ (w.heap.size ≤ s_) ∧ (gb598 ≠ s_) ∧ (s_ ≠ gb598) ∧ (Below w.heap.size w w')) ?_ ?_
                       rotate_left
                       · intro hCont
                         refine two_ (i := 6) (j := 10) (Ni := some 258) (Nj := some 45) #[true, true, true, true, true, true, true, false, false, false, false, false, false] #[true, true, true, true, true, true, false, false, false, false, true, false, false] rfl rfl rfl rfl (two_of HT_.out (by kernel_rfl)) (by decide) (by decide) (fun K hK => ?_) (fun K hK => ?_)
                         · skip
                           refine goes_ Try.func23 (by kernel_rfl) rfl #[.agg #[.string t593, .string t594], .agg #[.int .i64 ((rd_T36 t600 (ji110)).f0), .int .i64 ((rd_T36 t600 (ji110)).f1)]] (by rfl) rfl rfl (by (try simp only [List.map_toArray, List.map_cons, List.map_nil]); first | done | (simp only [hji110]; rfl) | rfl | (simp only [List.length_drop, List.length_take]; rfl)) ?_
                           with_reducible refine (impl_ValueOf.calls t593 t594 ((rd_T36 t600 (ji110)).f0) ((rd_T36 t600 (ji110)).f1) t611 t612 true _ A113.out).mono ?_
                           rintro e w137 ⟨rfl, hb⟩
                           have HS2_ := (hb.cell (World.block_lt_of_cell? _ _ (hHeld.2.2.1))).trans (hHeld.2.2.1)
                           have HS3_ := (hb.cell (World.block_lt_of_cell? _ _ (hHeld.2.2.2))).trans (hHeld.2.2.2)
                           refine ⟨_, rfl, ?_⟩
                           have n0_ := Aside0.mk (Kd.R_below (by (with_reducible repeat (first | apply Kd.R_alloc | apply Kd.R_drewN | apply Kd.R_drew)); exact HO_40.out) hb)
                           have n1_ := Aside0.mk (blk_below (lb BK598.out) hb)
                           have n2_ := Aside0.mk (below_step (lB HB.out) hb)
                           clear HO_40
                           clear BK598
                           clear HB
                           have HO_40 := n0_
                           have BK598 := n1_
                           have HB := n2_
                           clear n0_ n1_ n2_
                           (try clear hb)
                           refine hK.out _ _ ⟨(blk_cell BK598.out 0).trans rfl, (blk_cell BK598.out 1).trans rfl, HS2_, HS3_⟩ (fun hHeld => ?_)
                           clear hK K
                           refine norm_ (a' := ?_) ?_ ?_
                           rotate_left
                           · show Act.put _ (some 258) _ = _
                             simp only [Act.put, List.setIfInBounds_toArray, List.set_cons_zero, List.set_cons_succ, i64_w, i32_w]
                             rfl
                           refine pure_ (i := 7) (N := some 251) (v := ?_) (a' := ?_) #[true, true, true, true, true, true, true, true, false, false, false, false, false] rfl rfl (any_of HT_.out (by kernel_rfl)) (fun _ _ _ h => h) (Or.inl ⟨by rfl, ?_⟩) ?_ ?_
                           rotate_left
                           · intro w'
                             go_simp
                             with_reducible rfl
                           rotate_left
                           · simp only [Act.put, List.setIfInBounds_toArray, List.set_cons_zero, List.set_cons_succ, i64_w, i32_w]
                             rfl
                           refine pure_ (i := 8) (N := some 259) (v := ?_) (a' := ?_) #[true, true, true, true, true, true, true, true, true, false, false, false, false] rfl rfl (any_of HT_.out (by kernel_rfl)) (fun _ _ _ h => h) (Or.inl ⟨by rfl, ?_⟩) ?_ ?_
                           rotate_left
                           · intro w'
                             go_simp
                             with_reducible rfl
                           rotate_left
                           · simp only [Act.put, List.setIfInBounds_toArray, List.set_cons_zero, List.set_cons_succ, i64_w, i32_w]
                             rfl
                           refine pure_ (i := 9) (N := some 260) (v := ?_) (a' := ?_) #[true, true, true, true, true, true, true, true, true, true, false, false, false] rfl rfl (any_of HT_.out (by kernel_rfl)) (fun _ _ _ h => h) (Or.inl ⟨by rfl, ?_⟩) ?_ ?_
                           rotate_left
                           · intro w'
                             go_simp
                             with_reducible rfl
                           rotate_left
                           · simp only [Act.put, List.setIfInBounds_toArray, List.set_cons_zero, List.set_cons_succ, i64_w, i32_w]
                             rfl
                           refine one_ (i := 10) (N := some 45) #[true, true, true, true, true, true, true, true, true, true, true, false, false] rfl rfl (one_of HT_.out (by kernel_rfl)) (by decide) (fun K hK => ?_)
                           refine box_step ?hg (N := 45) ?hd (cs := #[.int .i64 0, .int .i64 0]) (t := 36) ?hr ?_; (case hd => rfl); (case hg => rfl); (case hr => first | (go_simp; done) | (go_simp; rfl))
                           intro gb614 hg w138 hbox hb
                           have HS2_ := (hb.cell (World.block_lt_of_cell? _ _ (hHeld.2.2.1))).trans (hHeld.2.2.1)
                           have HS3_ := (hb.cell (World.block_lt_of_cell? _ _ (hHeld.2.2.2))).trans (hHeld.2.2.2)
                           have n0_ := Aside0.mk (Kd.R_below (Kd.R_elderB (by (with_reducible repeat (first | apply Kd.R_alloc | apply Kd.R_drewN | apply Kd.R_drew)); exact HO_40.out) gb614 (Nat.le_of_eq hg.symm)) hb)
                           have n1_ := Aside0.mk (blk_below (lb BK598.out) hb)
                           have n2_ := Aside0.mk (below_step (lB HB.out) hb)
                           have n3_ := Aside0.mk (hbox)
                           have n4_ := gw hg (lB HB.out)
                           have n5_ := gw hg (lB HB.out)
                           have n6_ := na hg (lb BK598.out)
                           have n7_ := nz hg (lb BK598.out)
                           clear HO_40
                           clear BK598
                           clear HB
                           have HO_40 := n0_
                           have BK598 := n1_
                           have HB := n2_
                           have BK614 := n3_
                           have GW614 := n4_
                           have GE614 := n5_
                           have NB598_614 := n6_
                           have NB614_598 := n7_
                           clear n0_ n1_ n2_ n3_ n4_ n5_ n6_ n7_
                           clear hb hbox hg
                           refine hK.out _ _ ⟨(blk_cell BK598.out 0).trans rfl, (blk_cell BK598.out 1).trans rfl, HS2_, HS3_⟩ (fun hHeld => ?_)
                           clear hK K
                           refine norm_ (a' := ?_) ?_ ?_
                           rotate_left
                           · show Act.put _ (some 45) _ = _
                             simp only [Act.put, List.setIfInBounds_toArray, List.set_cons_zero, List.set_cons_succ, i64_w, i32_w]
                             rfl
                           exact norm_ (by simp only [putAll, Act.put, List.setIfInBounds_toArray, List.set_cons_zero, List.set_cons_succ]) (hCont (gb614) _ ⟨hHeld, (by (with_reducible repeat (first | apply Kd.R_alloc | apply Kd.R_drewN | apply Kd.R_drew)); exact Kd.R_mono HO_40.out (fun _ hk => hk.2)), (lb BK598.out), (lb BK614.out), GW614.out, GE614.out, NB598_614.out, NB614_598.out, (lB HB.out)⟩)
                         · skip
                           refine box_step ?hg (N := 45) ?hd (cs := #[.int .i64 0, .int .i64 0]) (t := 36) ?hr ?_; (case hd => rfl); (case hg => rfl); (case hr => first | (go_simp; done) | (go_simp; rfl))
                           intro gb614 hg w137 hbox hb
                           have HS2_ := (hb.cell (World.block_lt_of_cell? _ _ (hHeld.2.2.1))).trans (hHeld.2.2.1)
                           have HS3_ := (hb.cell (World.block_lt_of_cell? _ _ (hHeld.2.2.2))).trans (hHeld.2.2.2)
                           have n0_ := Aside0.mk (Kd.R_below (Kd.R_elderB (by (with_reducible repeat (first | apply Kd.R_alloc | apply Kd.R_drewN | apply Kd.R_drew)); exact HO_40.out) gb614 (Nat.le_of_eq hg.symm)) hb)
                           have n1_ := Aside0.mk (blk_below (lb BK598.out) hb)
                           have n2_ := Aside0.mk (below_step (lB HB.out) hb)
                           have n3_ := Aside0.mk (hbox)
                           have n4_ := gw hg (lB HB.out)
                           have n5_ := gw hg (lB HB.out)
                           have n6_ := na hg (lb BK598.out)
                           have n7_ := nz hg (lb BK598.out)
                           clear HO_40
                           clear BK598
                           clear HB
                           have HO_40 := n0_
                           have BK598 := n1_
                           have HB := n2_
                           have BK614 := n3_
                           have GW614 := n4_
                           have GE614 := n5_
                           have NB598_614 := n6_
                           have NB614_598 := n7_
                           clear n0_ n1_ n2_ n3_ n4_ n5_ n6_ n7_
                           clear hb hbox hg
                           refine hK.out _ _ ⟨(blk_cell BK598.out 0).trans rfl, (blk_cell BK598.out 1).trans rfl, HS2_, HS3_⟩ (fun hHeld => ?_)
                           clear hK K
                           refine norm_ (a' := ?_) ?_ ?_
                           rotate_left
                           · show Act.put _ (some 45) _ = _
                             simp only [Act.put, List.setIfInBounds_toArray, List.set_cons_zero, List.set_cons_succ, i64_w, i32_w]
                             rfl
                           refine one_ (i := 6) (N := some 258) #[true, true, true, true, true, true, true, false, false, false, true, false, false] rfl rfl (one_of HT_.out (by kernel_rfl)) (by decide) (fun K hK => ?_)
                           refine goes_ Try.func23 (by kernel_rfl) rfl #[.agg #[.string t593, .string t594], .agg #[.int .i64 ((rd_T36 t600 (ji110)).f0), .int .i64 ((rd_T36 t600 (ji110)).f1)]] (by rfl) rfl rfl (by (try simp only [List.map_toArray, List.map_cons, List.map_nil]); first | done | (simp only [hji110]; rfl) | rfl | (simp only [List.length_drop, List.length_take]; rfl)) ?_
                           with_reducible refine (impl_ValueOf.calls t593 t594 ((rd_T36 t600 (ji110)).f0) ((rd_T36 t600 (ji110)).f1) t611 t612 true _ A113.out).mono ?_
                           rintro e w138 ⟨rfl, hb⟩
                           have HS2_ := (hb.cell (World.block_lt_of_cell? _ _ (hHeld.2.2.1))).trans (hHeld.2.2.1)
                           have HS3_ := (hb.cell (World.block_lt_of_cell? _ _ (hHeld.2.2.2))).trans (hHeld.2.2.2)
                           refine ⟨_, rfl, ?_⟩
                           have n0_ := Aside0.mk (Kd.R_below (by (with_reducible repeat (first | apply Kd.R_alloc | apply Kd.R_drewN | apply Kd.R_drew)); exact HO_40.out) hb)
                           have n1_ := Aside0.mk (blk_below (lb BK598.out) hb)
                           have n2_ := Aside0.mk (blk_below (lb BK614.out) hb)
                           have n3_ := Aside0.mk (below_step (lB HB.out) hb)
                           clear HO_40
                           clear BK598
                           clear BK614
                           clear HB
                           have HO_40 := n0_
                           have BK598 := n1_
                           have BK614 := n2_
                           have HB := n3_
                           clear n0_ n1_ n2_ n3_
                           (try clear hb)
                           refine hK.out _ _ ⟨(blk_cell BK598.out 0).trans rfl, (blk_cell BK598.out 1).trans rfl, HS2_, HS3_⟩ (fun hHeld => ?_)
                           clear hK K
                           refine norm_ (a' := ?_) ?_ ?_
                           rotate_left
                           · show Act.put _ (some 258) _ = _
                             simp only [Act.put, List.setIfInBounds_toArray, List.set_cons_zero, List.set_cons_succ, i64_w, i32_w]
                             rfl
                           refine pure_ (i := 7) (N := some 251) (v := ?_) (a' := ?_) #[true, true, true, true, true, true, true, true, false, false, true, false, false] rfl rfl (any_of HT_.out (by kernel_rfl)) (fun _ _ _ h => h) (Or.inl ⟨by rfl, ?_⟩) ?_ ?_
                           rotate_left
                           · intro w'
                             go_simp
                             with_reducible rfl
                           rotate_left
                           · simp only [Act.put, List.setIfInBounds_toArray, List.set_cons_zero, List.set_cons_succ, i64_w, i32_w]
                             rfl
                           refine pure_ (i := 8) (N := some 259) (v := ?_) (a' := ?_) #[true, true, true, true, true, true, true, true, true, false, true, false, false] rfl rfl (any_of HT_.out (by kernel_rfl)) (fun _ _ _ h => h) (Or.inl ⟨by rfl, ?_⟩) ?_ ?_
                           rotate_left
                           · intro w'
                             go_simp
                             with_reducible rfl
                           rotate_left
                           · simp only [Act.put, List.setIfInBounds_toArray, List.set_cons_zero, List.set_cons_succ, i64_w, i32_w]
                             rfl
                           refine pure_ (i := 9) (N := some 260) (v := ?_) (a' := ?_) #[true, true, true, true, true, true, true, true, true, true, true, false, false] rfl rfl (any_of HT_.out (by kernel_rfl)) (fun _ _ _ h => h) (Or.inl ⟨by rfl, ?_⟩) ?_ ?_
                           rotate_left
                           · intro w'
                             go_simp
                             with_reducible rfl
                           rotate_left
                           · simp only [Act.put, List.setIfInBounds_toArray, List.set_cons_zero, List.set_cons_succ, i64_w, i32_w]
                             rfl
                           exact norm_ (by simp only [putAll, Act.put, List.setIfInBounds_toArray, List.set_cons_zero, List.set_cons_succ]) (hCont (gb614) _ ⟨hHeld, (by (with_reducible repeat (first | apply Kd.R_alloc | apply Kd.R_drewN | apply Kd.R_drew)); exact Kd.R_mono HO_40.out (fun _ hk => hk.2)), (lb BK598.out), (lb BK614.out), GW614.out, GE614.out, NB598_614.out, NB614_598.out, (lB HB.out)⟩)
                       rintro gb614 w139 ⟨hS_, h0_, h1_, h2_, h3_, h4_, h5_, h6_, h7_⟩
                       have n0_ : Aside0 (Kd.R k36 36 w139 w.heap.size (fun k_ => k_ ≠ gb614) (.slice (some ad610) t600.length co135) t600) := ⟨h0_⟩
                       have n1_ : Aside0 (w139.heap[gb598]? = some (.cells #[.string t593, .string t594] 25 (0, 0))) := ⟨h1_⟩
                       have n2_ : Aside0 (w139.heap[gb614]? = some (.cells #[.int .i64 0, .int .i64 0] 36 (0, 0))) := ⟨h2_⟩
                       have n3_ : Aside0 (w.heap.size ≤ gb614) := ⟨h3_⟩
                       have n4_ : Aside0 (w.heap.size ≤ gb614) := ⟨h4_⟩
                       have n5_ : Aside0 (gb598 ≠ gb614) := ⟨h5_⟩
                       have n6_ : Aside0 (gb614 ≠ gb598) := ⟨h6_⟩
                       have n7_ : Aside0 (Below w.heap.size w w139) := ⟨h7_⟩
                       clear HO_40
                       clear BK598
                       clear HB
                       clear h0_ h1_ h2_ h3_ h4_ h5_ h6_ h7_
                       have HO_40 := n0_
                       have BK598 := n1_
                       have BK614 := n2_
                       have GW614 := n3_
                       have GE614 := n4_
                       have NB598_614 := n5_
                       have NB614_598 := n6_
                       have HB := n7_
                       clear n0_ n1_ n2_ n3_ n4_ n5_ n6_ n7_
                       have hHeld : w139.cell? ⟨gb598, 0, none⟩ = some (.string t593) ∧ w139.cell? ⟨gb598, 1, none⟩ = some (.string t594) ∧ w139.cell? (ad610.add (((ji110)).toNat * 2)) = some (.int .i64 ((rd_T36 t600 (ji110)).f0)) ∧ w139.cell? ⟨(ad610.add (((ji110)).toNat * 2)).block, (ad610.add (((ji110)).toNat * 2)).off + 1, none⟩ = some (.int .i64 ((rd_T36 t600 (ji110)).f1)) := hS_
                       refine norm_ (a' := ?_) ?_ ?_
                       rotate_left
                       · simp only [putAll, Act.put, List.setIfInBounds_toArray, List.set_cons_zero, List.set_cons_succ]
                         rfl
                       refine one_ (i := 11) (N := none) #[true, true, true, true, true, true, true, true, true, true, true, true, false] rfl rfl (one_of HT_.out (by kernel_rfl)) (by decide) (fun K hK => ?_)
                       have hs140 : w139.cell? ⟨gb614, 0, none⟩ = some (.int .i64 0) := (blk_cell BK614.out 0).trans rfl
                       have hfs140 := blk_frozen BK614.out 0
                       have hns140_0 := NB598_614.out
                       have hms140_0 := NB614_598.out
                       have hs141 : w139.cell? ⟨gb614, 1, none⟩ = some (.int .i64 0) := (blk_cell BK614.out 1).trans rfl
                       have hfs141 := blk_frozen BK614.out 1
                       have hns141_0 := NB598_614.out
                       have hms141_0 := NB614_598.out
                       refine skip_ (w1 := ?_) (by rfl) rfl ?_ ?_
                       rotate_left
                       · go_simp
                         rfl
                       refine hK.out _ _ ⟨((cell_far (p := ⟨gb614, _, none⟩) NB598_614.out _).trans (((cell_far (p := ⟨gb614, _, none⟩) NB598_614.out _).trans (hHeld.1)))), ((cell_far (p := ⟨gb614, _, none⟩) NB598_614.out _).trans (((cell_far (p := ⟨gb614, _, none⟩) NB598_614.out _).trans (hHeld.2.1)))), ((cell_far (p := ⟨gb614, _, none⟩) (by first | exact Kd.own_blk (Kd.R_away HO_40.out (fun _ hk => hk)) | (rw [add_block]; exact Kd.own_blk (Kd.R_away HO_40.out (fun _ hk => hk))) | (show (Addr.add _ _).block ≠ _; rw [add_block]; exact Kd.own_blk (Kd.R_away HO_40.out (fun _ hk => hk))) | (dsimp only; exact Kd.own_blk (Kd.R_away HO_40.out (fun _ hk => hk)))) _).trans (((cell_far (p := ⟨gb614, _, none⟩) (by first | exact Kd.own_blk (Kd.R_away HO_40.out (fun _ hk => hk)) | (rw [add_block]; exact Kd.own_blk (Kd.R_away HO_40.out (fun _ hk => hk))) | (show (Addr.add _ _).block ≠ _; rw [add_block]; exact Kd.own_blk (Kd.R_away HO_40.out (fun _ hk => hk))) | (dsimp only; exact Kd.own_blk (Kd.R_away HO_40.out (fun _ hk => hk)))) _).trans (hHeld.2.2.1)))), ((cell_far (p := ⟨gb614, _, none⟩) (by first | exact Kd.own_blk (Kd.R_away HO_40.out (fun _ hk => hk)) | (rw [add_block]; exact Kd.own_blk (Kd.R_away HO_40.out (fun _ hk => hk))) | (show (Addr.add _ _).block ≠ _; rw [add_block]; exact Kd.own_blk (Kd.R_away HO_40.out (fun _ hk => hk))) | (dsimp only; exact Kd.own_blk (Kd.R_away HO_40.out (fun _ hk => hk)))) _).trans (((cell_far (p := ⟨gb614, _, none⟩) (by first | exact Kd.own_blk (Kd.R_away HO_40.out (fun _ hk => hk)) | (rw [add_block]; exact Kd.own_blk (Kd.R_away HO_40.out (fun _ hk => hk))) | (show (Addr.add _ _).block ≠ _; rw [add_block]; exact Kd.own_blk (Kd.R_away HO_40.out (fun _ hk => hk))) | (dsimp only; exact Kd.own_blk (Kd.R_away HO_40.out (fun _ hk => hk)))) _).trans (hHeld.2.2.2))))⟩ (fun hHeld => ?_)
                       clear hK K
                       refine pure_ (i := 12) (N := some 46) (v := ?_) (a' := ?_) #[true, true, true, true, true, true, true, true, true, true, true, true, true] rfl rfl (any_of HT_.out (by kernel_rfl)) (fun _ _ _ h => h) (Or.inl ⟨by rfl, ?_⟩) ?_ ?_
                       rotate_left
                       · intro w'
                         go_simp
                         with_reducible rfl
                       rotate_left
                       · simp only [Act.put, List.setIfInBounds_toArray, List.set_cons_zero, List.set_cons_succ, i64_w, i32_w]
                         rfl
                       refine done_ (done_of HT_.out (by kernel_rfl)) ?_
                       try go_wp2
                       have n0_ : Aside0 (Kd.R k36 36 ((w139.setCell ⟨gb614, 0, none⟩ (.int .i64 t611)).setCell ⟨gb614, 1, none⟩ (.int .i64 t612)) w.heap.size (fun k_ => k_ ≠ gb614) (.slice (some ad610) t600.length co135) t600) := ⟨by (with_reducible repeat (first | apply Kd.R_alloc | apply Kd.R_drewN | apply Kd.R_drew)); exact Kd.R_mono (Kd.R_far (p := ⟨gb614, 1, none⟩) (Kd.R_far (p := ⟨gb614, 0, none⟩) (Kd.R_mono HO_40.out (fun k_ hk => (⟨hk, hk⟩ : _ ∧ k_ ≠ gb614))) (fun _ hk => hk.2) (.int .i64 t611)) (fun _ hk => hk.2) (.int .i64 t612)) (fun _ hk => hk.1)⟩
                       have n1_ : Aside0 (((w139.setCell ⟨gb614, 0, none⟩ (.int .i64 t611)).setCell ⟨gb614, 1, none⟩ (.int .i64 t612)).heap[gb598]? = some (.cells #[.string t593, .string t594] 25 (0, 0))) := ⟨by (with_reducible repeat (first | refine blk_drewN ?_ _ | refine blk_drew ?_ | refine blk_alloc ?_ _)); refine blk_far ?_ NB598_614.out _; (with_reducible repeat (first | refine blk_drewN ?_ _ | refine blk_drew ?_ | refine blk_alloc ?_ _)); refine blk_far ?_ NB598_614.out _; exact lb BK598.out⟩
                       have n2_ : Aside0 (((w139.setCell ⟨gb614, 0, none⟩ (.int .i64 t611)).setCell ⟨gb614, 1, none⟩ (.int .i64 t612)).heap[gb614]? = some (.cells #[.int .i64 t611, .int .i64 t612] 36 (0, 0))) := ⟨by (with_reducible repeat (first | refine blk_drewN ?_ _ | refine blk_drew ?_ | refine blk_alloc ?_ _)); refine blk_put (cs := #[.int .i64 t611, .int .i64 0]) ?_ 1 _ rfl; (with_reducible repeat (first | refine blk_drewN ?_ _ | refine blk_drew ?_ | refine blk_alloc ?_ _)); refine blk_put (cs := #[.int .i64 0, .int .i64 0]) ?_ 0 _ rfl; exact lb BK614.out⟩
                       have n3_ : Aside0 (Below w.heap.size w ((w139.setCell ⟨gb614, 0, none⟩ (.int .i64 t611)).setCell ⟨gb614, 1, none⟩ (.int .i64 t612))) := ⟨by exact lB HB.out⟩
                       (try clear HO_40)
                       (try clear BK598)
                       (try clear BK614)
                       (try clear HB)
                       generalize ((w139.setCell ⟨gb614, 0, none⟩ (.int .i64 t611)).setCell ⟨gb614, 1, none⟩ (.int .i64 t612)) = w142 at n0_ n1_ n2_ n3_ ⊢
                       have HO_40 := n0_
                       have BK598 := n1_
                       have BK614 := n2_
                       have HB := n3_
                       clear n0_ n1_ n2_ n3_
                       have n0_ := Aside0.mk (Kd.R_drew HO_40.out)
                       have n1_ := Aside0.mk (blk_drew BK598.out)
                       have n2_ := Aside0.mk (blk_drew BK614.out)
                       have n3_ := Aside0.mk (below_drew1 HB.out)
                       clear HO_40
                       clear BK598
                       clear BK614
                       clear HB
                       have HO_40 := n0_
                       have BK598 := n1_
                       have BK614 := n2_
                       have HB := n3_
                       clear n0_ n1_ n2_ n3_
                       have p615 : 0 ≤ (x44_5 : Int) := of_decide_eq_true (by first | (with_reducible assumption) | assumption)
                       have q615 : x44_5 < (t600.length : Int) := of_decide_eq_true (by first | (with_reducible assumption) | assumption)
                       obtain ⟨ad615, e615, hx615_0, hx615_1⟩ := at_T36 (Kd.R_reads' HO_40.out).2.2 x44_5 p615 q615
                       obtain rfl : ad610 = ad615 := (by injection e615)
                       replace p615 := eq_true p615
                       replace q615 := eq_true q615
                       refine start_ (n := 38) (S := fun w' => w'.cell? ⟨gb614, 0, none⟩ = some (.int .i64 t611) ∧ w'.cell? ⟨gb614, 1, none⟩ = some (.int .i64 t612) ∧ w'.cell? (ad610.add ((x44_5).toNat * 2)) = some (.int .i64 ((rd_T36 t600 x44_5).f0)) ∧ w'.cell? ⟨(ad610.add ((x44_5).toNat * 2)).block, (ad610.add ((x44_5).toNat * 2)).off + 1, none⟩ = some (.int .i64 ((rd_T36 t600 x44_5).f1))) (ds := []) #[false, false, false, false, false, false, false, false, false, false, false, false, false, false, false, false, false, false, false, false, false, false, false, false, false, false, false, false, false, false, false, false, false, false, false, false, false, false] (by kernel_rfl) rfl rfl ⟨(blk_cell BK614.out 0).trans rfl, (blk_cell BK614.out 1).trans rfl, hx615_0, hx615_1⟩ (fun hHeld => ?_); refine with_tabW laws_FnEndsAddUp.tab33 laws_FnEndsAddUp.bits33 (fun HT_ HW_ => ?_)
                       generalize w142.drew = w143 at HO_40 BK598 BK614 HB hx615_0 hx615_1 hHeld ⊢
                       refine pure_ (i := 0) (N := some 261) (v := ?_) (a' := ?_) #[true, false, false, false, false, false, false, false, false, false, false, false, false, false, false, false, false, false, false, false, false, false, false, false, false, false, false, false, false, false, false, false, false, false, false, false, false, false] rfl rfl (any_of HT_.out (by kernel_rfl)) (fun _ _ _ h => h) (Or.inl ⟨by rfl, ?_⟩) ?_ ?_
                       rotate_left
                       · intro w'
                         go_simp
                         with_reducible rfl
                       rotate_left
                       · simp only [Act.put, List.setIfInBounds_toArray, List.set_cons_zero, List.set_cons_succ, i64_w, i32_w]
                         rfl
                       refine pure_ (i := 1) (N := some 262) (v := ?_) (a' := ?_) #[true, true, false, false, false, false, false, false, false, false, false, false, false, false, false, false, false, false, false, false, false, false, false, false, false, false, false, false, false, false, false, false, false, false, false, false, false, false] rfl rfl (any_of HT_.out (by kernel_rfl)) (fun _ _ _ h => h) (Or.inl ⟨by rfl, ?_⟩) ?_ ?_
                       rotate_left
                       · intro w'
                         go_simp
                         with_reducible rfl
                       rotate_left
                       · simp only [Act.put, List.setIfInBounds_toArray, List.set_cons_zero, List.set_cons_succ, i64_w, i32_w]
                         rfl
                       refine pure_ (i := 2) (N := some 263) (v := ?_) (a' := ?_) #[true, true, true, false, false, false, false, false, false, false, false, false, false, false, false, false, false, false, false, false, false, false, false, false, false, false, false, false, false, false, false, false, false, false, false, false, false, false] rfl rfl (any_of HT_.out (by kernel_rfl)) (fun _ _ _ h => h) (Or.inl ⟨by rfl, ?_⟩) ?_ ?_
                       rotate_left
                       · intro w'
                         go_simp
                         with_reducible rfl
                       rotate_left
                       · simp only [Act.put, List.setIfInBounds_toArray, List.set_cons_zero, List.set_cons_succ, i64_w, i32_w]
                         rfl
                       refine pure_ (i := 4) (N := some 265) (v := ?_) (a' := ?_) #[true, true, true, false, true, false, false, false, false, false, false, false, false, false, false, false, false, false, false, false, false, false, false, false, false, false, false, false, false, false, false, false, false, false, false, false, false, false] rfl rfl (any_of HT_.out (by kernel_rfl)) (fun _ _ _ h => h) (Or.inl ⟨by rfl, ?_⟩) ?_ ?_
                       rotate_left
                       · intro w'
                         go_simp
                         with_reducible rfl
                       rotate_left
                       · simp only [Act.put, List.setIfInBounds_toArray, List.set_cons_zero, List.set_cons_succ, i64_w, i32_w]
                         rfl
                       refine pure_ (i := 5) (N := some 266) (v := ?_) (a' := ?_) #[true, true, true, false, true, true, false, false, false, false, false, false, false, false, false, false, false, false, false, false, false, false, false, false, false, false, false, false, false, false, false, false, false, false, false, false, false, false] rfl rfl (any_of HT_.out (by kernel_rfl)) (fun _ _ _ h => h) (Or.inl ⟨by rfl, ?_⟩) ?_ ?_
                       rotate_left
                       · intro w'
                         go_simp
                         with_reducible rfl
                       rotate_left
                       · simp only [Act.put, List.setIfInBounds_toArray, List.set_cons_zero, List.set_cons_succ, i64_w, i32_w]
                         rfl
                       refine pure_ (i := 6) (N := some 267) (v := ?_) (a' := ?_) #[true, true, true, false, true, true, true, false, false, false, false, false, false, false, false, false, false, false, false, false, false, false, false, false, false, false, false, false, false, false, false, false, false, false, false, false, false, false] rfl rfl (any_of HT_.out (by kernel_rfl)) (fun _ _ _ h => h) (Or.inl ⟨by rfl, ?_⟩) ?_ ?_
                       rotate_left
                       · intro w'
                         go_simp
                         with_reducible rfl
                       rotate_left
                       · simp only [Act.put, List.setIfInBounds_toArray, List.set_cons_zero, List.set_cons_succ, i64_w, i32_w]
                         rfl
                       refine take_ (i := 3) (N := some 264) (v := ?_) (a' := ?_) #[true, true, true, true, true, true, true, false, false, false, false, false, false, false, false, false, false, false, false, false, false, false, false, false, false, false, false, false, false, false, false, false, false, false, false, false, false, false] rfl rfl (take_ofW HT_.out HW_.out (by kernel_rfl)) (fun _ _ _ h => h) (Or.inl ⟨by rfl, ?_⟩) hHeld ?_ ?_
                       rotate_left
                       · rintro w' ⟨s0, s1, s2, s3⟩
                         go_simp
                         with_reducible rfl
                       rotate_left
                       · simp only [Act.put, List.setIfInBounds_toArray, List.set_cons_zero, List.set_cons_succ, i64_w, i32_w]
                         rfl
                       refine take_ (i := 7) (N := some 268) (v := ?_) (a' := ?_) #[true, true, true, true, true, true, true, true, false, false, false, false, false, false, false, false, false, false, false, false, false, false, false, false, false, false, false, false, false, false, false, false, false, false, false, false, false, false] rfl rfl (take_ofW HT_.out HW_.out (by kernel_rfl)) (fun _ _ _ h => h) (Or.inl ⟨by rfl, ?_⟩) hHeld ?_ ?_
                       rotate_left
                       · rintro w' ⟨s0, s1, s2, s3⟩
                         go_simp
                         with_reducible rfl
                       rotate_left
                       · simp only [Act.put, List.setIfInBounds_toArray, List.set_cons_zero, List.set_cons_succ, i64_w, i32_w]
                         rfl
                       refine pure_ (i := 8) (N := some 269) (v := ?_) (a' := ?_) #[true, true, true, true, true, true, true, true, true, false, false, false, false, false, false, false, false, false, false, false, false, false, false, false, false, false, false, false, false, false, false, false, false, false, false, false, false, false] rfl rfl (any_of HT_.out (by kernel_rfl)) (fun _ _ _ h => h) (Or.inl ⟨by rfl, ?_⟩) ?_ ?_
                       rotate_left
                       · intro w'
                         go_simp
                         with_reducible rfl
                       rotate_left
                       · simp only [Act.put, List.setIfInBounds_toArray, List.set_cons_zero, List.set_cons_succ, i64_w, i32_w]
                         rfl
                       refine pure_ (i := 9) (N := some 270) (v := ?_) (a' := ?_) #[true, true, true, true, true, true, true, true, true, true, false, false, false, false, false, false, false, false, false, false, false, false, false, false, false, false, false, false, false, false, false, false, false, false, false, false, false, false] rfl rfl (any_of HT_.out (by kernel_rfl)) (fun _ _ _ h => h) (Or.inl ⟨by rfl, ?_⟩) ?_ ?_
                       rotate_left
                       · intro w'
                         go_simp
                         with_reducible rfl
                       rotate_left
                       · simp only [Act.put, List.setIfInBounds_toArray, List.set_cons_zero, List.set_cons_succ, i64_w, i32_w]
                         rfl
                       refine pure_ (i := 10) (N := some 271) (v := ?_) (a' := ?_) #[true, true, true, true, true, true, true, true, true, true, true, false, false, false, false, false, false, false, false, false, false, false, false, false, false, false, false, false, false, false, false, false, false, false, false, false, false, false] rfl rfl (any_of HT_.out (by kernel_rfl)) (fun _ _ _ h => h) (Or.inl ⟨by rfl, ?_⟩) ?_ ?_
                       rotate_left
                       · intro w'
                         go_simp
                         with_reducible rfl
                       rotate_left
                       · simp only [Act.put, List.setIfInBounds_toArray, List.set_cons_zero, List.set_cons_succ, i64_w, i32_w]
                         rfl
                       refine pure_ (i := 11) (N := some 272) (v := ?_) (a' := ?_) #[true, true, true, true, true, true, true, true, true, true, true, true, false, false, false, false, false, false, false, false, false, false, false, false, false, false, false, false, false, false, false, false, false, false, false, false, false, false] rfl rfl (any_of HT_.out (by kernel_rfl)) (fun _ _ _ h => h) (Or.inl ⟨by rfl, ?_⟩) ?_ ?_
                       rotate_left
                       · intro w'
                         go_simp
                         with_reducible rfl
                       rotate_left
                       · simp only [Act.put, List.setIfInBounds_toArray, List.set_cons_zero, List.set_cons_succ, i64_w, i32_w]
                         rfl
                       refine pure_ (i := 12) (N := some 273) (v := ?_) (a' := ?_) #[true, true, true, true, true, true, true, true, true, true, true, true, true, false, false, false, false, false, false, false, false, false, false, false, false, false, false, false, false, false, false, false, false, false, false, false, false, false] rfl rfl (any_of HT_.out (by kernel_rfl)) (fun _ _ _ h => h) (Or.inl ⟨by rfl, ?_⟩) ?_ ?_
                       rotate_left
                       · intro w'
                         go_simp
                         with_reducible rfl
                       rotate_left
                       · simp only [Act.put, List.setIfInBounds_toArray, List.set_cons_zero, List.set_cons_succ, i64_w, i32_w]
                         rfl
                       refine pure_ (i := 13) (N := some 274) (v := ?_) (a' := ?_) #[true, true, true, true, true, true, true, true, true, true, true, true, true, true, false, false, false, false, false, false, false, false, false, false, false, false, false, false, false, false, false, false, false, false, false, false, false, false] rfl rfl (any_of HT_.out (by kernel_rfl)) (fun _ _ _ h => h) (Or.inl ⟨by rfl, ?_⟩) ?_ ?_
                       rotate_left
                       · intro w'
                         go_simp
                         with_reducible rfl
                       rotate_left
                       · simp only [Act.put, List.setIfInBounds_toArray, List.set_cons_zero, List.set_cons_succ, i64_w, i32_w]
                         rfl
                       refine pure_ (i := 14) (N := some 275) (v := undef) (a' := ?_) #[true, true, true, true, true, true, true, true, true, true, true, true, true, true, true, false, false, false, false, false, false, false, false, false, false, false, false, false, false, false, false, false, false, false, false, false, false, false] rfl rfl (any_of HT_.out (by kernel_rfl)) (fun _ _ _ h => h) (Or.inr ⟨by rfl, rfl⟩) ?_ ?_
                       rotate_left
                       · simp only [Act.put, List.setIfInBounds_toArray, List.set_cons_zero, List.set_cons_succ, i64_w, i32_w]
                         rfl
                       refine pure_ (i := 15) (N := some 276) (v := undef) (a' := ?_) #[true, true, true, true, true, true, true, true, true, true, true, true, true, true, true, true, false, false, false, false, false, false, false, false, false, false, false, false, false, false, false, false, false, false, false, false, false, false] rfl rfl (any_of HT_.out (by kernel_rfl)) (fun _ _ _ h => h) (Or.inr ⟨by rfl, rfl⟩) ?_ ?_
                       rotate_left
                       · simp only [Act.put, List.setIfInBounds_toArray, List.set_cons_zero, List.set_cons_succ, i64_w, i32_w]
                         rfl
                       refine pure_ (i := 16) (N := some 277) (v := undef) (a' := ?_) #[true, true, true, true, true, true, true, true, true, true, true, true, true, true, true, true, true, false, false, false, false, false, false, false, false, false, false, false, false, false, false, false, false, false, false, false, false, false] rfl rfl (any_of HT_.out (by kernel_rfl)) (fun _ _ _ h => h) (Or.inr ⟨by rfl, rfl⟩) ?_ ?_
                       rotate_left
                       · simp only [Act.put, List.setIfInBounds_toArray, List.set_cons_zero, List.set_cons_succ, i64_w, i32_w]
                         rfl
                       refine pure_ (i := 17) (N := some 278) (v := undef) (a' := ?_) #[true, true, true, true, true, true, true, true, true, true, true, true, true, true, true, true, true, true, false, false, false, false, false, false, false, false, false, false, false, false, false, false, false, false, false, false, false, false] rfl rfl (any_of HT_.out (by kernel_rfl)) (fun _ _ _ h => h) (Or.inr ⟨by rfl, rfl⟩) ?_ ?_
                       rotate_left
                       · simp only [Act.put, List.setIfInBounds_toArray, List.set_cons_zero, List.set_cons_succ, i64_w, i32_w]
                         rfl
                       refine pure_ (i := 18) (N := some 279) (v := undef) (a' := ?_) #[true, true, true, true, true, true, true, true, true, true, true, true, true, true, true, true, true, true, true, false, false, false, false, false, false, false, false, false, false, false, false, false, false, false, false, false, false, false] rfl rfl (any_of HT_.out (by kernel_rfl)) (fun _ _ _ h => h) (Or.inr ⟨by rfl, rfl⟩) ?_ ?_
                       rotate_left
                       · simp only [Act.put, List.setIfInBounds_toArray, List.set_cons_zero, List.set_cons_succ, i64_w, i32_w]
                         rfl
                       refine pure_ (i := 19) (N := some 280) (v := undef) (a' := ?_) #[true, true, true, true, true, true, true, true, true, true, true, true, true, true, true, true, true, true, true, true, false, false, false, false, false, false, false, false, false, false, false, false, false, false, false, false, false, false] rfl rfl (any_of HT_.out (by kernel_rfl)) (fun _ _ _ h => h) (Or.inr ⟨by rfl, rfl⟩) ?_ ?_
                       rotate_left
                       · simp only [Act.put, List.setIfInBounds_toArray, List.set_cons_zero, List.set_cons_succ, i64_w, i32_w]
                         rfl
                       refine pure_ (i := 20) (N := some 281) (v := undef) (a' := ?_) #[true, true, true, true, true, true, true, true, true, true, true, true, true, true, true, true, true, true, true, true, true, false, false, false, false, false, false, false, false, false, false, false, false, false, false, false, false, false] rfl rfl (any_of HT_.out (by kernel_rfl)) (fun _ _ _ h => h) (Or.inr ⟨by rfl, rfl⟩) ?_ ?_
                       rotate_left
                       · simp only [Act.put, List.setIfInBounds_toArray, List.set_cons_zero, List.set_cons_succ, i64_w, i32_w]
                         rfl
                       refine pure_ (i := 21) (N := some 282) (v := undef) (a' := ?_) #[true, true, true, true, true, true, true, true, true, true, true, true, true, true, true, true, true, true, true, true, true, true, false, false, false, false, false, false, false, false, false, false, false, false, false, false, false, false] rfl rfl (any_of HT_.out (by kernel_rfl)) (fun _ _ _ h => h) (Or.inr ⟨by rfl, rfl⟩) ?_ ?_
                       rotate_left
                       · simp only [Act.put, List.setIfInBounds_toArray, List.set_cons_zero, List.set_cons_succ, i64_w, i32_w]
                         rfl
                       refine pure_ (i := 22) (N := some 283) (v := undef) (a' := ?_) #[true, true, true, true, true, true, true, true, true, true, true, true, true, true, true, true, true, true, true, true, true, true, true, false, false, false, false, false, false, false, false, false, false, false, false, false, false, false] rfl rfl (any_of HT_.out (by kernel_rfl)) (fun _ _ _ h => h) (Or.inr ⟨by rfl, rfl⟩) ?_ ?_
                       rotate_left
                       · simp only [Act.put, List.setIfInBounds_toArray, List.set_cons_zero, List.set_cons_succ, i64_w, i32_w]
                         rfl
                       refine pure_ (i := 23) (N := some 284) (v := undef) (a' := ?_) #[true, true, true, true, true, true, true, true, true, true, true, true, true, true, true, true, true, true, true, true, true, true, true, true, false, false, false, false, false, false, false, false, false, false, false, false, false, false] rfl rfl (any_of HT_.out (by kernel_rfl)) (fun _ _ _ h => h) (Or.inr ⟨by rfl, rfl⟩) ?_ ?_
                       rotate_left
                       · simp only [Act.put, List.setIfInBounds_toArray, List.set_cons_zero, List.set_cons_succ, i64_w, i32_w]
                         rfl
                       refine pure_ (i := 24) (N := some 285) (v := undef) (a' := ?_) #[true, true, true, true, true, true, true, true, true, true, true, true, true, true, true, true, true, true, true, true, true, true, true, true, true, false, false, false, false, false, false, false, false, false, false, false, false, false] rfl rfl (any_of HT_.out (by kernel_rfl)) (fun _ _ _ h => h) (Or.inr ⟨by rfl, rfl⟩) ?_ ?_
                       rotate_left
                       · simp only [Act.put, List.setIfInBounds_toArray, List.set_cons_zero, List.set_cons_succ, i64_w, i32_w]
                         rfl
                       refine pure_ (i := 25) (N := some 286) (v := undef) (a' := ?_) #[true, true, true, true, true, true, true, true, true, true, true, true, true, true, true, true, true, true, true, true, true, true, true, true, true, true, false, false, false, false, false, false, false, false, false, false, false, false] rfl rfl (any_of HT_.out (by kernel_rfl)) (fun _ _ _ h => h) (Or.inr ⟨by rfl, rfl⟩) ?_ ?_
                       rotate_left
                       · simp only [Act.put, List.setIfInBounds_toArray, List.set_cons_zero, List.set_cons_succ, i64_w, i32_w]
                         rfl
                       refine pure_ (i := 26) (N := some 287) (v := undef) (a' := ?_) #[true, true, true, true, true, true, true, true, true, true, true, true, true, true, true, true, true, true, true, true, true, true, true, true, true, true, true, false, false, false, false, false, false, false, false, false, false, false] rfl rfl (any_of HT_.out (by kernel_rfl)) (fun _ _ _ h => h) (Or.inr ⟨by rfl, rfl⟩) ?_ ?_
                       rotate_left
                       · simp only [Act.put, List.setIfInBounds_toArray, List.set_cons_zero, List.set_cons_succ, i64_w, i32_w]
                         rfl
                       refine pure_ (i := 27) (N := some 288) (v := undef) (a' := ?_) #[true, true, true, true, true, true, true, true, true, true, true, true, true, true, true, true, true, true, true, true, true, true, true, true, true, true, true, true, false, false, false, false, false, false, false, false, false, false] rfl rfl (any_of HT_.out (by kernel_rfl)) (fun _ _ _ h => h) (Or.inr ⟨by rfl, rfl⟩) ?_ ?_
                       rotate_left
                       · simp only [Act.put, List.setIfInBounds_toArray, List.set_cons_zero, List.set_cons_succ, i64_w, i32_w]
                         rfl
                       refine pure_ (i := 28) (N := some 289) (v := undef) (a' := ?_) #[true, true, true, true, true, true, true, true, true, true, true, true, true, true, true, true, true, true, true, true, true, true, true, true, true, true, true, true, true, false, false, false, false, false, false, false, false, false] rfl rfl (any_of HT_.out (by kernel_rfl)) (fun _ _ _ h => h) (Or.inr ⟨by rfl, rfl⟩) ?_ ?_
                       rotate_left
                       · simp only [Act.put, List.setIfInBounds_toArray, List.set_cons_zero, List.set_cons_succ, i64_w, i32_w]
                         rfl
                       refine pure_ (i := 29) (N := some 290) (v := undef) (a' := ?_) #[true, true, true, true, true, true, true, true, true, true, true, true, true, true, true, true, true, true, true, true, true, true, true, true, true, true, true, true, true, true, false, false, false, false, false, false, false, false] rfl rfl (any_of HT_.out (by kernel_rfl)) (fun _ _ _ h => h) (Or.inr ⟨by rfl, rfl⟩) ?_ ?_
                       rotate_left
                       · simp only [Act.put, List.setIfInBounds_toArray, List.set_cons_zero, List.set_cons_succ, i64_w, i32_w]
                         rfl
                       refine pure_ (i := 30) (N := some 291) (v := undef) (a' := ?_) #[true, true, true, true, true, true, true, true, true, true, true, true, true, true, true, true, true, true, true, true, true, true, true, true, true, true, true, true, true, true, true, false, false, false, false, false, false, false] rfl rfl (any_of HT_.out (by kernel_rfl)) (fun _ _ _ h => h) (Or.inr ⟨by rfl, rfl⟩) ?_ ?_
                       rotate_left
                       · simp only [Act.put, List.setIfInBounds_toArray, List.set_cons_zero, List.set_cons_succ, i64_w, i32_w]
                         rfl
                       refine pure_ (i := 31) (N := some 292) (v := undef) (a' := ?_) #[true, true, true, true, true, true, true, true, true, true, true, true, true, true, true, true, true, true, true, true, true, true, true, true, true, true, true, true, true, true, true, true, false, false, false, false, false, false] rfl rfl (any_of HT_.out (by kernel_rfl)) (fun _ _ _ h => h) (Or.inr ⟨by rfl, rfl⟩) ?_ ?_
                       rotate_left
                       · simp only [Act.put, List.setIfInBounds_toArray, List.set_cons_zero, List.set_cons_succ, i64_w, i32_w]
                         rfl
                       refine pure_ (i := 32) (N := some 293) (v := undef) (a' := ?_) #[true, true, true, true, true, true, true, true, true, true, true, true, true, true, true, true, true, true, true, true, true, true, true, true, true, true, true, true, true, true, true, true, true, false, false, false, false, false] rfl rfl (any_of HT_.out (by kernel_rfl)) (fun _ _ _ h => h) (Or.inr ⟨by rfl, rfl⟩) ?_ ?_
                       rotate_left
                       · simp only [Act.put, List.setIfInBounds_toArray, List.set_cons_zero, List.set_cons_succ, i64_w, i32_w]
                         rfl
                       refine pure_ (i := 33) (N := some 294) (v := undef) (a' := ?_) #[true, true, true, true, true, true, true, true, true, true, true, true, true, true, true, true, true, true, true, true, true, true, true, true, true, true, true, true, true, true, true, true, true, true, false, false, false, false] rfl rfl (any_of HT_.out (by kernel_rfl)) (fun _ _ _ h => h) (Or.inr ⟨by rfl, rfl⟩) ?_ ?_
                       rotate_left
                       · simp only [Act.put, List.setIfInBounds_toArray, List.set_cons_zero, List.set_cons_succ, i64_w, i32_w]
                         rfl
                       refine pure_ (i := 34) (N := some 295) (v := undef) (a' := ?_) #[true, true, true, true, true, true, true, true, true, true, true, true, true, true, true, true, true, true, true, true, true, true, true, true, true, true, true, true, true, true, true, true, true, true, true, false, false, false] rfl rfl (any_of HT_.out (by kernel_rfl)) (fun _ _ _ h => h) (Or.inr ⟨by rfl, rfl⟩) ?_ ?_
                       rotate_left
                       · simp only [Act.put, List.setIfInBounds_toArray, List.set_cons_zero, List.set_cons_succ, i64_w, i32_w]
                         rfl
                       refine pure_ (i := 35) (N := some 296) (v := undef) (a' := ?_) #[true, true, true, true, true, true, true, true, true, true, true, true, true, true, true, true, true, true, true, true, true, true, true, true, true, true, true, true, true, true, true, true, true, true, true, true, false, false] rfl rfl (any_of HT_.out (by kernel_rfl)) (fun _ _ _ h => h) (Or.inr ⟨by rfl, rfl⟩) ?_ ?_
                       rotate_left
                       · simp only [Act.put, List.setIfInBounds_toArray, List.set_cons_zero, List.set_cons_succ, i64_w, i32_w]
                         rfl
                       refine pure_ (i := 36) (N := some 297) (v := ?_) (a' := ?_) #[true, true, true, true, true, true, true, true, true, true, true, true, true, true, true, true, true, true, true, true, true, true, true, true, true, true, true, true, true, true, true, true, true, true, true, true, true, false] rfl rfl (any_of HT_.out (by kernel_rfl)) (fun _ _ _ h => h) (Or.inl ⟨by rfl, ?_⟩) ?_ ?_
                       rotate_left
                       · intro w'
                         go_simp
                         with_reducible rfl
                       rotate_left
                       · simp only [Act.put, List.setIfInBounds_toArray, List.set_cons_zero, List.set_cons_succ, i64_w, i32_w]
                         rfl
                       refine pure_ (i := 37) (N := some 298) (v := ?_) (a' := ?_) #[true, true, true, true, true, true, true, true, true, true, true, true, true, true, true, true, true, true, true, true, true, true, true, true, true, true, true, true, true, true, true, true, true, true, true, true, true, true] rfl rfl (any_of HT_.out (by kernel_rfl)) (fun _ _ _ h => h) (Or.inl ⟨by rfl, ?_⟩) ?_ ?_
                       rotate_left
                       · intro w'
                         go_simp
                         with_reducible rfl
                       rotate_left
                       · simp only [Act.put, List.setIfInBounds_toArray, List.set_cons_zero, List.set_cons_succ, i64_w, i32_w]
                         rfl
                       refine done_ (done_of HT_.out (by kernel_rfl)) ?_
                       try go_wp2
                       go_roundg k5
                       case measure => have := HJ8.out; have := HJ40.out; have := HJ66.out; have := HJ100.out; have := HK5.out; omega
                       case rel => exact ⟨(wrap64 (x44_5 + 1)), (by first | rfl | (simp; done) | (simp [*]; done)), H', ⟨by have := HJ8.out; have := HJ40.out; have := HJ66.out; have := HJ100.out; have := HK5.out; omega⟩, ⟨by (with_reducible repeat (first | apply Kd.R_alloc | apply Kd.R_drewN | apply Kd.R_drew)); exact Kd.R_mono HO_40.out (fun _ hk => trivial)⟩, ⟨lb BK598.out⟩, ⟨by exact lB HB.out⟩⟩
                 · rw [if_neg c115] at H
                   exact absurd H (by simp)
               · replace c114 := Bool.eq_false_iff.mpr c114
                 subst c114
                 have H1 : (some false) = some r := by rw [if_neg (show ¬ (false = true) by decide)] at H; exact H
                 clear H
                 have H := H1
                 clear H1
                 exact absurd ((Option.some.inj H).trans HRT.out) (by decide)
             · rw [if_neg c112] at H
               exact absurd H (by simp)
           · rw [if_neg c111] at H
             exact absurd H (by simp)
         · rw [if_neg c109] at H
           have c109b0 : decide (x44_5 < (t600.length : Int)) = false := decide_eq_false c109
           clear c109
           obtain rfl := Option.some.inj H
           obtain ⟨Ao144, co144, eo144⟩ := Kd.R_slice HO_40.out
           subst eo144
           go_wp2
           go_ret
           exact ⟨by first | rfl | (simp [errW_none, errW_some] <;> rfl) | (simp [*, errW_none, errW_some] <;> rfl), by exact lB HB.out⟩
def laws_FnEndsAddUp.Pure : Prop := ∀ (l0 : List Int) (l1 : List Int), l0.length ≤ maxLen → l0.length * 1 ≤ 140737488351232 → (∀ x ∈ l0, (Lit.int .u8 x).wf = true) → l1.length ≤ maxLen → l1.length * 1 ≤ 140737488351232 → (∀ x ∈ l1, (Lit.int .u8 x).wf = true) → ∃ k, laws_FnEndsAddUp.f k l0 l1 = some true
theorem laws_FnEndsAddUp.walk (P : laws_FnEndsAddUp.Pure) (a0 : Option Addr) (len0 cap0 : Nat) (z0 : List Int) (a1 : Option Addr) (len1 cap1 : Nat) (z1 : List Int) (w : World) (w0 : (a0 = none ∧ len0 = 0 ∧ cap0 = 0 ∧ z0 = []) ∨ ∃ x, a0 = some x ∧ len0 ≤ cap0 ∧ cap0 ≤ maxLen ∧ z0.length = cap0 ∧ (∀ i, i < z0.length → w.cell? (x.add i) = some (.int .u8 (z0.getD i 0))) ∧ ∀ n ∈ z0, (Lit.int .u8 n).wf = true) (y0 : len0 * 1 ≤ 140737488351232) (w1 : (a1 = none ∧ len1 = 0 ∧ cap1 = 0 ∧ z1 = []) ∨ ∃ x, a1 = some x ∧ len1 ≤ cap1 ∧ cap1 ≤ maxLen ∧ z1.length = cap1 ∧ (∀ i, i < z1.length → w.cell? (x.add i) = some (.int .u8 (z1.getD i 0))) ∧ ∀ n ∈ z1, (Lit.int .u8 n).wf = true) (y1 : len1 * 1 ≤ 140737488351232) :
    Calls Try.prog 3 #[.slice a0 len0 cap0, .slice a1 len1 cap1] w fun e w' => e = .returned (.bool true) ∧ Below w.heap.size w w' := by
  obtain ⟨l0, rfl, hr0, hm0, hw0, hc0⟩ := ReadsInt.ofRowC w0
  obtain ⟨l1, rfl, hr1, hm1, hw1, hc1⟩ := ReadsInt.ofRowC w1
  obtain ⟨k, h⟩ := P l0 l1 hm0 y0 hw0 hm1 y1 hw1
  refine (laws_FnEndsAddUp.calls k _ _ l0 _ _ l1 true w (Kd.C_of_reads (d := (0 : Int)) (h1 := fun _ => rfl) hr0) hc0 (Kd.C_of_reads (d := (0 : Int)) (h1 := fun _ => rfl) hr1) hc1 h (Aside0.mk rfl)).mono ?_
  rintro e w' ⟨rfl, hd⟩
  exact ⟨rfl, hd⟩
end Go.Proofs.Ytijnadjgmmednaa.PA
namespace Go.Proofs.Ytijnadjgmmednaa.PA
open Go.RowKit Go.Proofs.YtijnadjgmmednaaW.PrintWords
def Oct (l : List Int) : Prop := ∀ x ∈ l, 0 ≤ x ∧ x ≤ 255
def Lf (m : Nat) (a : Int) : Prop := 0 ≤ a ∧ a + m ≤ 4611686018427387904
theorem Lf.less {m n : Nat} {a : Int} (h : Lf m a) (hn : n ≤ m) : Lf n a := by unfold Lf at *; omega
theorem w64 {x : Int} (h : -9223372036854775808 ≤ x ∧ x ≤ 9223372036854775807) : wrap64 x = x := by unfold wrap64; omega
theorem rd_oct {l : List Int} (hl : Oct l) (i : Int) (h0 : 0 ≤ i) (h1 : i < l.length) : 0 ≤ rd l i ∧ rd l i ≤ 255 := by
  unfold rd
  rw [List.getD_eq_getElem?_getD, List.getElem?_eq_getElem (by omega)]
  exact hl _ (List.getElem_mem _)
theorem u64_range (n : Int) : 0 ≤ IntKind.u64.wrap n ∧ IntKind.u64.wrap n < 18446744073709551616 := by
  simp [IntKind.wrap, IntKind.bits, IntKind.signed]; omega
theorem u64_in (n : Int) (h0 : 0 ≤ n) (h1 : n < 2 ^ 64) : IntKind.u64.wrap n = n := by
  simp [IntKind.wrap, IntKind.bits, IntKind.signed]; omega
theorem byte_of (n : Int) : 0 ≤ wrap64 (Go.bits .and .u64 (IntKind.u64.wrap n / 1099511627776) 255) ∧ wrap64 (Go.bits .and .u64 (IntKind.u64.wrap n / 1099511627776) 255) ≤ 255 := by
  obtain ⟨h0, h1⟩ := u64_range n
  generalize IntKind.u64.wrap n = x at *
  have h2 : 0 ≤ x / 1099511627776 := by omega
  have h3 : x / 1099511627776 < 2 ^ 64 := by omega
  have := bits_mask .u64 64 (by decide) u64_in 8 (by decide) (x / 1099511627776) h2 h3
  rw [show ((2 : Int) ^ 8 - 1) = 255 from rfl] at this
  rw [this, w64 (by omega)]
  omega
theorem next_tot {l : List Int} (hl : Oct l) {m : Nat} {a s : Int} (h : Lf (m + 1) a) : ∃ r s', spec_l1Cur_next.f l a s = some (r, a + 1, s') ∧ 0 ≤ r ∧ r ≤ 255 := by
  unfold Lf at h
  have hw : wrap64 (a + 1) = a + 1 := w64 (by omega)
  unfold spec_l1Cur_next.f
  by_cases h1 : a < (l.length : Int)
  · obtain ⟨b0, b1⟩ := rd_oct hl a h.1 h1
    rw [if_pos h1, if_pos h.1, hw]
    by_cases h2 : a + 1 ≤ (l.length : Int)
    · rw [if_pos h2, w64 (x := rd l a) (by omega)]
      exact ⟨_, _, rfl, b0, b1⟩
    · rw [if_neg h2]
      exact ⟨_, _, rfl, (byte_of _).1, (byte_of _).2⟩
  · rw [if_neg h1, hw]
    by_cases h2 : a + 1 ≤ (l.length : Int)
    · rw [if_pos h2]
      try simp only [Option.bind_some]
      exact ⟨_, _, rfl, by omega, by omega⟩
    · rw [if_neg h2]
      exact ⟨_, _, rfl, (byte_of _).1, (byte_of _).2⟩
theorem pick_tot {l : List Int} (hl : Oct l) {m : Nat} {a s : Int} (n : Int) (hn : n ≤ 1000000000) (h : Lf (m + 2) a) : ∃ r a' s', spec_l1Cur_pick.f l a s n = some (r, a', s') ∧ 0 ≤ r ∧ (1 ≤ n → r < n) ∧ Lf m a' := by
  unfold spec_l1Cur_pick.f
  by_cases h1 : n ≤ 1
  · rw [if_pos h1]
    exact ⟨0, a, s, rfl, by omega, fun _ => by omega, h.less (by omega)⟩
  · obtain ⟨r, s', e, r0, r1⟩ := next_tot hl (m := m + 1) (a := a) (s := s) h
    rw [if_neg h1, e]
    simp only [Option.bind_some]
    have h' : Lf (m + 1) (a + 1) := by unfold Lf at *; omega
    by_cases h2 : n > 200
    · obtain ⟨r2, s2, e2, r20, r21⟩ := next_tot hl (m := m) (s := s') h'
      rw [if_pos h2, e2]
      simp only [Option.bind_some]
      rw [if_neg (by omega), w64 (x := r * 256) (by omega), w64 (by omega)]
      have hm : Int.tmod (r * 256 + r2) n = (r * 256 + r2) % n := Int.tmod_eq_emod_of_nonneg (by omega)
      rw [hm]
      exact ⟨_, _, _, rfl, Int.emod_nonneg _ (by omega), fun _ => Int.emod_lt_of_pos _ (by omega), by unfold Lf at *; omega⟩
    · rw [if_neg h2, if_neg (by omega)]
      have hm : Int.tmod r n = r % n := Int.tmod_eq_emod_of_nonneg (by omega)
      rw [hm]
      exact ⟨_, _, _, rfl, Int.emod_nonneg _ (by omega), fun _ => Int.emod_lt_of_pos _ (by omega), by unfold Lf at *; omega⟩
theorem one_tot {l : List Int} (hl : Oct l) {m : Nat} {a s : Int} (n : Int) (hn : n ≤ 1000000000) (h : Lf (m + 2) a) : ∃ b a' s', spec_l1Cur_one.f l a s n = some (b, a', s') ∧ Lf m a' := by
  obtain ⟨r, a', s', e, _, _, h'⟩ := pick_tot hl n hn (a := a) (s := s) h
  unfold spec_l1Cur_one.f
  rw [e]
  exact ⟨_, _, _, rfl, h'⟩
theorem among_tot {l : List Int} (hl : Oct l) {m : Nat} {a s : Int} (xs : List Int) (h0 : 0 < xs.length) (hn : xs.length ≤ 1000) (h : Lf (m + 2) a) : ∃ x a' s', spec_l1Cur_among.f l a s xs = some (x, a', s') ∧ x ∈ xs ∧ Lf m a' := by
  obtain ⟨r, a', s', e, r0, r1, h'⟩ := pick_tot hl (xs.length : Int) (by omega) (a := a) (s := s) h
  have r2 := r1 (by omega)
  unfold spec_l1Cur_among.f
  rw [e]
  simp only [Option.bind_some]
  rw [if_pos r0, if_pos r2]
  refine ⟨_, _, _, rfl, ?_, h'⟩
  unfold rd
  rw [List.getD_eq_getElem?_getD, List.getElem?_eq_getElem (by omega)]
  exact List.getElem_mem _
theorem lit4 : (⟨#[40, 46, 46, 41]⟩ : ByteArray) = N.tx (.node .leaf .leaf) := rfl
theorem graft_tot (T : N.Tr) (i : Int) (h0 : 0 ≤ i) (h1 : i < T.carets + 1) (h2 : T.carets < 900) : ∃ T' : N.Tr, spec_trGraft.f (N.tx T) i (⟨#[40, 46, 46, 41]⟩ : ByteArray) = some (N.tx T') ∧ T'.carets = T.carets + 1 := by
  refine ⟨N.graft T i.toNat (.node .leaf .leaf), ?_, ?_⟩
  · rw [lit4]
    unfold spec_trGraft.f
    rw [N.parseT_tx, N.parseT_tx]
    exact if_pos ⟨h0, by omega, by omega, by decide⟩
  · exact N.grown_one _ _ T 0 (Nat.zero_le _) (by omega)
theorem sureTree_loop {l : List Int} (hl : Oct l) (n : Nat) (hn : n ≤ 800) : ∀ (d k : Nat) (m : Nat) (a s : Int) (T : N.Tr) (i : Nat), i + d = n → d < k → T.carets = i → Lf (m + 2 * d) a →
    ∃ (T' : N.Tr) (a' s' : Int), spec_l1Cur_sureTree.l0 k n (N.tx T) i l a s = some (N.tx T', a', s') ∧ T'.carets = n ∧ Lf m a' := by
  intro d
  induction d with
  | zero =>
    intro k m a s T i hi hk hT h
    obtain ⟨k, rfl⟩ : ∃ q, k = q + 1 := ⟨k - 1, by omega⟩
    exact ⟨T, a, s, by simp only [spec_l1Cur_sureTree.l0]; rw [if_neg (by omega)], by omega, h⟩
  | succ d ih =>
    intro k m a s T i hi hk hT h
    obtain ⟨k, rfl⟩ : ∃ q, k = q + 1 := ⟨k - 1, by omega⟩
    obtain ⟨r, a1, s1, e, r0, r1, h1⟩ := pick_tot hl (m := m + 2 * d) (a := a) (s := s) ((i : Int) + 1) (by omega) (by unfold Lf at *; omega)
    have r2 := r1 (by omega)
    obtain ⟨T1, e1, hT1⟩ := graft_tot T r r0 (by omega) (by omega)
    obtain ⟨T', a', s', e2, hT', h2⟩ := ih k m a1 s1 T1 (i + 1) (by omega) (by omega) (by omega) h1
    refine ⟨T', a', s', ?_, hT', h2⟩
    simp only [spec_l1Cur_sureTree.l0]
    rw [if_pos (by omega), w64 (by omega), e]
    simp only [Option.bind_some]
    rw [e1]
    simp only [Option.bind_some]
    rw [show ((i : Int) + 1) = ((i + 1 : Nat) : Int) by omega]
    exact e2
theorem sureTree_tot {l : List Int} (hl : Oct l) {m : Nat} {a s : Int} (n : Nat) (hn : n ≤ 800) (k : Nat) (hk : n < k) (h : Lf (m + 2 * n) a) : ∃ (T : N.Tr) (a' s' : Int), spec_l1Cur_sureTree.f k l a s n = some (N.tx T, a', s') ∧ T.carets = n ∧ Lf m a' :=
  sureTree_loop hl n hn n k m a s .leaf 0 (by omega) hk rfl h
theorem surePair_tot {l : List Int} (hl : Oct l) {m : Nat} {a s : Int} (n : Nat) (hn : n ≤ 800) (k : Nat) (hk : n < k) (h : Lf (m + 4 * n) a) : ∃ (T U : N.Tr) (a' s' : Int), spec_l1Cur_surePair.f k l a s n = some (N.tx T, N.tx U, a', s') ∧ T.carets = n ∧ U.carets = n ∧ Lf m a' := by
  obtain ⟨T, a1, s1, e1, hT, h1⟩ := sureTree_tot hl (m := m + 2 * n) (a := a) (s := s) n hn k hk (by unfold Lf at *; omega)
  obtain ⟨U, a2, s2, e2, hU, h2⟩ := sureTree_tot hl (m := m) (a := a1) (s := s1) n hn k hk h1
  unfold spec_l1Cur_surePair.f
  rw [e1]
  simp only [Option.bind_some]
  rw [e2]
  exact ⟨T, U, a2, s2, rfl, hT, hU, h2⟩
theorem str1 (b : Int) : (strOfNums [b]).size = 1 := by simp [strOfNums]; rfl
theorem ext_size (t : ByteArray) (i j : Nat) : (t.extract i j).size ≤ t.size := by simp [ByteArray.size_extract]; omega
theorem spoilt_loop {l : List Int} (hl : Oct l) (w : ByteArray) (hw : 0 < w.size) (hw2 : w.size ≤ 1000) : ∀ (d k m : Nat) (a s : Int) (t : ByteArray) (n : Int), 0 ≤ n → n.toNat = d → 2 * d + 1 < k → t.size + d ≤ 1000000 → Lf (m + 6 * d) a →
    ∃ (t' : ByteArray) (a' s' : Int), spec_l1Cur_spoilt.l0 k t w n l a s = some (t', a', s') ∧ t'.size ≤ t.size + d ∧ Lf m a' := by
  intro d
  induction d with
  | zero =>
    intro k m a s t n h0 hd hk ht h
    obtain ⟨k, rfl⟩ : ∃ q, k = q + 2 := ⟨k - 2, by omega⟩
    refine ⟨t, a, s, ?_, by omega, h⟩
    simp only [spec_l1Cur_spoilt.l0]
    rw [if_neg (by omega)]
    simp [spec_l1Cur_spoilt.j1]
  | succ d ih =>
    intro k m a s t n h0 hd hk ht h
    obtain ⟨k, rfl⟩ : ∃ q, k = q + 2 := ⟨k - 2, by omega⟩
    have hn : wrap64 (n - 1) = n - 1 := w64 (by omega)
    simp only [spec_l1Cur_spoilt.l0]
    rw [if_pos (by omega)]
    simp only [spec_l1Cur_spoilt.j1]
    by_cases hz : (t.size : Int) > 0
    · rw [decide_eq_true hz, if_pos rfl]
      obtain ⟨i, a1, s1, e1, i0, i1, h1⟩ := pick_tot hl (m := m + 6 * d + 4) (a := a) (s := s) (t.size : Int) (by omega) (by unfold Lf at *; omega)
      have i2 := i1 (by omega)
      obtain ⟨c, a2, s2, e2, c0, c1, h2⟩ := pick_tot hl (m := m + 6 * d + 2) (a := a1) (s := s1) (w.size : Int) (by omega) (by unfold Lf at *; omega)
      have c2 := c1 (by omega)
      obtain ⟨q, a3, s3, e3, q0, q1, h3⟩ := pick_tot hl (m := m + 6 * d) (a := a2) (s := s2) 3 (by omega) (by unfold Lf at *; omega)
      rw [e1]
      simp only [Option.bind_some]
      rw [e2]
      simp only [Option.bind_some]
      rw [if_pos c0, if_pos c2, e3]
      simp only [Option.bind_some]
      have x0 := ext_size t 0 i.toNat
      have xi : (t.extract i.toNat t.size).size + i.toNat ≤ t.size := by simp [ByteArray.size_extract]; omega
      have x00 : (t.extract 0 i.toNat).size ≤ i.toNat := by simp [ByteArray.size_extract]; omega
      have wi : wrap64 (i + 1) = i + 1 := w64 (by omega)
      have xj : (t.extract (i + 1).toNat t.size).size + i.toNat ≤ t.size := by simp [ByteArray.size_extract]; omega
      have s1_ := str1 (bt w c)
      by_cases q2 : q = 0
      · rw [if_pos q2, if_pos i0, if_pos (by omega), if_pos (by rw [s1_]; omega), if_pos (by rw [ByteArray.size_append, s1_]; omega), hn]
        have hs : (((t.extract 0 i.toNat) ++ strOfNums [bt w c]) ++ t.extract i.toNat t.size).size ≤ t.size + 1 := by rw [ByteArray.size_append, ByteArray.size_append, s1_]; omega
        obtain ⟨t', a', s', e4, ht', h4⟩ := ih k m a3 s3 (((t.extract 0 i.toNat) ++ strOfNums [bt w c]) ++ t.extract i.toNat t.size) (n - 1) (by omega) (by omega) (by omega) (by omega) h3
        exact ⟨t', a', s', e4, by omega, h4⟩
      · rw [if_neg q2]
        by_cases q3 : q = 1
        · rw [if_pos q3, if_pos i0, if_pos (by omega), if_pos (by rw [s1_]; omega), wi, if_pos (by omega), if_pos (by omega), if_pos (by rw [ByteArray.size_append, s1_]; omega), hn]
          have hs : (((t.extract 0 i.toNat) ++ strOfNums [bt w c]) ++ t.extract (i + 1).toNat t.size).size ≤ t.size + 1 := by rw [ByteArray.size_append, ByteArray.size_append, s1_]; omega
          obtain ⟨t', a', s', e4, ht', h4⟩ := ih k m a3 s3 (((t.extract 0 i.toNat) ++ strOfNums [bt w c]) ++ t.extract (i + 1).toNat t.size) (n - 1) (by omega) (by omega) (by omega) (by omega) h3
          exact ⟨t', a', s', e4, by omega, h4⟩
        · rw [if_neg q3, if_pos i0, if_pos (by omega), wi, if_pos (by omega), if_pos (by omega), if_pos (by omega), hn]
          have hs : ((t.extract 0 i.toNat) ++ t.extract (i + 1).toNat t.size).size ≤ t.size + 1 := by rw [ByteArray.size_append]; omega
          obtain ⟨t', a', s', e4, ht', h4⟩ := ih k m a3 s3 ((t.extract 0 i.toNat) ++ t.extract (i + 1).toNat t.size) (n - 1) (by omega) (by omega) (by omega) (by omega) h3
          exact ⟨t', a', s', e4, by omega, h4⟩
    · rw [decide_eq_false hz, if_neg (by decide)]
      exact ⟨t, a, s, rfl, by omega, h.less (by omega)⟩
theorem spoilt_tot {l : List Int} (hl : Oct l) {m : Nat} {a s : Int} (t w : ByteArray) (hw : 0 < w.size) (hw2 : w.size ≤ 1000) (ht : t.size ≤ 900000) (k : Nat) (hk : 5 < k) (h : Lf (m + 14) a) : ∃ (t' : ByteArray) (a' s' : Int), spec_l1Cur_spoilt.f k l a s t w = some (t', a', s') ∧ t'.size ≤ t.size + 2 ∧ Lf m a' := by
  obtain ⟨r, a1, s1, e1, r0, r1, h1⟩ := pick_tot hl (m := m + 12) (a := a) (s := s) 2 (by omega) (by unfold Lf at *; omega)
  have r2 := r1 (by omega)
  obtain ⟨t', a', s', e2, ht', h2⟩ := spoilt_loop hl w hw hw2 (1 + r).toNat k m a1 s1 t (1 + r) (by omega) rfl (by omega) (by omega) (by unfold Lf at *; omega)
  unfold spec_l1Cur_spoilt.f
  rw [e1]
  simp only [Option.bind_some]
  rw [w64 (by omega)]
  exact ⟨t', a', s', e2, by omega, h2⟩
theorem tx_size (T : N.Tr) : (N.tx T).size = 3 * T.carets + 1 := T.txt_length
theorem tree_tot {l : List Int} (hl : Oct l) {m : Nat} {a s : Int} (n : Nat) (hn : n ≤ 100) (k : Nat) (hk : 120 < k) (h : Lf (m + 2 * n + 40) a) : ∃ (t : ByteArray) (a' s' : Int), spec_l1Cur_tree.f k l a s n = some (t, a', s') ∧ t.size ≤ 400 ∧ Lf m a' := by
  unfold spec_l1Cur_tree.f
  obtain ⟨r, a1, s1, e1, r0, r1, h1⟩ := pick_tot hl (m := m + 2 * n + 38) (a := a) (s := s) ((n : Int) + 1) (by omega) (by unfold Lf at *; omega)
  have r2 := r1 (by omega)
  obtain ⟨q, rfl⟩ : ∃ q : Nat, r = q := ⟨r.toNat, by omega⟩
  obtain ⟨T, a2, s2, e2, hT, h2⟩ := sureTree_tot hl (m := m + 38) (a := a1) (s := s1) q (by omega) k (by omega) (by unfold Lf at *; omega)
  obtain ⟨u, a3, s3, e3, u0, u1, h3⟩ := pick_tot hl (m := m + 36) (a := a2) (s := s2) 14 (by omega) (by unfold Lf at *; omega)
  have zT := tx_size T
  rw [w64 (by omega), e1]
  simp only [Option.bind_some]
  rw [e2]
  simp only [Option.bind_some]
  rw [e3]
  simp only [Option.bind_some]
  by_cases z0 : u = 0
  · obtain ⟨t', a', s', e4, ht', h4⟩ := spoilt_tot hl (m := m) (a := a3) (s := s3) (N.tx T) (⟨#[40, 46, 41]⟩ : ByteArray) (by decide) (by decide) (by omega) k (by omega) (by unfold Lf at *; omega)
    rw [if_pos z0, e4]
    exact ⟨t', a', s', rfl, by omega, h4⟩
  · rw [if_neg z0]
    by_cases z1 : u = 1
    · obtain ⟨b, a4, s4, e4, b0, b1, h4⟩ := pick_tot hl (m := m + 34) (a := a3) (s := s3) 2 (by omega) (by unfold Lf at *; omega)
      have b2 := b1 (by omega)
      obtain ⟨c, rfl⟩ : ∃ c : Nat, b = c := ⟨b.toNat, by omega⟩
      obtain ⟨T2, a5, s5, e5, hT2, h5⟩ := sureTree_tot hl (m := m) (a := a4) (s := s4) (8 + c) (by omega) k (by omega) (by unfold Lf at *; omega)
      rw [if_pos z1, e4]
      simp only [Option.bind_some]
      rw [w64 (by omega), show (8 : Int) + (c : Int) = ((8 + c : Nat) : Int) by omega, e5]
      have := tx_size T2
      try simp only [Option.bind_some]
      exact ⟨_, a5, s5, rfl, by omega, h5⟩
    · rw [if_neg z1]
      try simp only [Option.bind_some]
      exact ⟨_, a3, s3, rfl, by omega, h3.less (by omega)⟩
theorem gen_some (i : Int) (h0 : 0 ≤ i) (h1 : i < 900) : ∃ T U : N.Tr, spec_prGenerator.f i = some (N.tx T, N.tx U) ∧ T.carets = i.toNat + 2 ∧ U.carets = i.toNat + 2 := by
  unfold spec_prGenerator.f
  rw [if_pos ⟨h0, h1⟩]
  exact ⟨_, _, rfl, (N.gen_carets _).1, (N.gen_carets _).2⟩
theorem pair_tot {l : List Int} (hl : Oct l) {m : Nat} {a s : Int} (n : Nat) (hn : n ≤ 100) (k : Nat) (hk : 120 < k) (h : Lf (m + 8 * n + 100) a) : ∃ (x y : ByteArray) (a' s' : Int), spec_l1Cur_pair.f k l a s n = some (x, y, a', s') ∧ x.size ≤ 400 ∧ y.size ≤ 400 ∧ Lf m a' := by
  unfold spec_l1Cur_pair.f
  obtain ⟨r, a1, s1, e1, r0, r1, h1⟩ := pick_tot hl (m := m + 8 * n + 98) (a := a) (s := s) ((n : Int) + 1) (by omega) (by unfold Lf at *; omega)
  have r2 := r1 (by omega)
  obtain ⟨q, rfl⟩ : ∃ q : Nat, r = q := ⟨r.toNat, by omega⟩
  obtain ⟨T, U, a2, s2, e2, hT, hU, h2⟩ := surePair_tot hl (m := m + 4 * n + 98) (a := a1) (s := s1) q (by omega) k (by omega) (by unfold Lf at *; omega)
  obtain ⟨u, a3, s3, e3, u0, u1, h3⟩ := pick_tot hl (m := m + 4 * n + 96) (a := a2) (s := s2) 14 (by omega) (by unfold Lf at *; omega)
  have zT := tx_size T
  have zU := tx_size U
  rw [w64 (by omega), e1]
  simp only [Option.bind_some]
  rw [e2]
  simp only [Option.bind_some]
  rw [e3]
  simp only [Option.bind_some]
  by_cases z0 : u = 0
  · obtain ⟨t', a', s', e4, ht', h4⟩ := tree_tot hl (m := m) (a := a3) (s := s3) n hn k hk (by unfold Lf at *; omega)
    rw [if_pos z0, e4]
    try simp only [Option.bind_some]
    exact ⟨_, _, a', s', rfl, by omega, ht', h4⟩
  · rw [if_neg z0]
    by_cases z1 : u = 1
    · obtain ⟨t', a', s', e4, ht', h4⟩ := spoilt_tot hl (m := m) (a := a3) (s := s3) (N.tx T) (⟨#[40, 46, 41]⟩ : ByteArray) (by decide) (by decide) (by omega) k (by omega) (by unfold Lf at *; omega)
      rw [if_pos z1, e4]
      try simp only [Option.bind_some]
      exact ⟨_, _, a', s', rfl, by omega, by omega, h4⟩
    · rw [if_neg z1]
      by_cases z2 : u = 2
      · obtain ⟨b, a4, s4, e4, b0, b1, h4⟩ := pick_tot hl (m := m + 94) (a := a3) (s := s3) 2 (by omega) (by unfold Lf at *; omega)
        have b2 := b1 (by omega)
        obtain ⟨c, rfl⟩ : ∃ c : Nat, b = c := ⟨b.toNat, by omega⟩
        obtain ⟨T2, U2, a5, s5, e5, hT2, hU2, h5⟩ := surePair_tot hl (m := m) (a := a4) (s := s4) (8 + c) (by omega) k (by omega) (by unfold Lf at *; omega)
        rw [if_pos z2, e4]
        simp only [Option.bind_some]
        rw [w64 (by omega), show (8 : Int) + (c : Int) = ((8 + c : Nat) : Int) by omega, e5]
        have := tx_size T2
        have := tx_size U2
        try simp only [Option.bind_some]
        exact ⟨_, _, a5, s5, rfl, by omega, by omega, h5⟩
      · rw [if_neg z2]
        by_cases z3 : u = 3
        · obtain ⟨b, a4, s4, e4, b0, b1, h4⟩ := pick_tot hl (m := m) (a := a3) (s := s3) 4 (by omega) (by unfold Lf at *; omega)
          have b2 := b1 (by omega)
          obtain ⟨T2, U2, e5, hT2, hU2⟩ := gen_some b b0 (by omega)
          rw [if_pos z3, e4]
          simp only [Option.bind_some]
          rw [e5]
          have := tx_size T2
          have := tx_size U2
          try simp only [Option.bind_some]
          exact ⟨_, _, a4, s4, rfl, by omega, by omega, h4⟩
        · rw [if_neg z3]
          try simp only [Option.bind_some]
          exact ⟨_, _, a3, s3, rfl, by omega, by omega, h3.less (by omega)⟩
end Go.Proofs.Ytijnadjgmmednaa.PA
namespace Go.Proofs.Ytijnadjgmmednaa.PA
open Go.RowKit Go.Proofs.YtijnadjgmmednaaW.PrintWords
theorem gcd_ev : ∀ (n : Nat) (a b : Int), 0 ≤ a → 0 ≤ b → b < n → ∃ g, Ev (fun k => spec_mpGcd.f k a b) g
  | 0, a, b, _, h0, h => by omega
  | n + 1, a, b, ha, hb, h => by
    by_cases h0 : b > 0
    · have ht : Int.tmod a b = a % b := Int.tmod_eq_emod_of_nonneg ha
      obtain ⟨g, K, hK⟩ := gcd_ev n b (a % b) (by omega) (Int.emod_nonneg _ (by omega)) (by have := Int.emod_lt_of_pos a h0; omega)
      refine ⟨g, K + 1, fun k hk => ?_⟩
      obtain ⟨k, rfl⟩ : ∃ k', k = k' + 1 := ⟨k - 1, by omega⟩
      have e : spec_mpGcd.f k b (a % b) = some g := hK k (by omega)
      show spec_mpGcd.f (k + 1) a b = _
      unfold spec_mpGcd.f at e ⊢
      rw [spec_mpGcd.l0, if_pos h0, if_neg (by omega), ht]
      exact e
    · refine ⟨a, 1, fun k hk => ?_⟩
      obtain ⟨k, rfl⟩ : ∃ k', k = k' + 1 := ⟨k - 1, by omega⟩
      show spec_mpGcd.f (k + 1) a b = _
      unfold spec_mpGcd.f
      rw [spec_mpGcd.l0, if_neg h0]
theorem short_ev' (a b : Int) (ha : 0 ≤ a) (hb : 0 ≤ b) : ∃ v, Ev (fun k => spec_mpShort.f k a b) v := by
  obtain ⟨g, K, hK⟩ := gcd_ev (b.toNat + 1) a b ha hb (by omega)
  by_cases h0 : g = 0
  · refine ⟨(a, b), K, fun k hk => ?_⟩
    have e : spec_mpGcd.f k a b = some g := hK k hk
    show spec_mpShort.f k a b = _
    unfold spec_mpShort.f
    rw [e, Option.bind_some, if_pos h0]
  · refine ⟨(wrap64 (Int.tdiv a g), wrap64 (Int.tdiv b g)), K, fun k hk => ?_⟩
    have e : spec_mpGcd.f k a b = some g := hK k hk
    show spec_mpShort.f k a b = _
    unfold spec_mpShort.f
    rw [e, Option.bind_some, if_neg h0]
theorem shl_one (r : Int) (h0 : 0 ≤ r) (h : r ≤ 20) : 1 ≤ shl .i64 1 r ∧ shl .i64 1 r ≤ 1048576 := by
  obtain ⟨q, rfl⟩ : ∃ q : Nat, r = q := ⟨r.toNat, by omega⟩
  have hq : q ∈ List.range 21 := List.mem_range.2 (by omega)
  have : ∀ q ∈ List.range 21, 1 ≤ shl .i64 1 ((q : Nat) : Int) ∧ shl .i64 1 ((q : Nat) : Int) ≤ 1048576 := by decide +kernel
  exact this q hq
theorem frac_ev {l : List Int} (hl : Oct l) {m : Nat} {a s : Int} (n : Nat) (hn : n ≤ 18) (h : Lf (m + 12) a) : ∃ (x y a' s' : Int), Ev (fun k => spec_l1Cur_fraction.f k l a s n) (x, y, a', s') ∧ Lf m a' := by
  obtain ⟨r, a1, s1, e1, r0, r1, h1⟩ := pick_tot hl (m := m + 10) (a := a) (s := s) ((n : Int) + 1) (by omega) (by unfold Lf at *; omega)
  have r1 := r1 (by omega)
  obtain ⟨q1, q2⟩ := shl_one r r0 (by omega)
  obtain ⟨u, a2, s2, e2, u0, u1, h2⟩ := pick_tot hl (m := m + 8) (a := a1) (s := s1) (shl .i64 1 r + 1) (by omega) (by unfold Lf at *; omega)
  obtain ⟨⟨x, y⟩, K, hK⟩ := short_ev' u (shl .i64 1 r) u0 (by omega)
  obtain ⟨v, a3, s3, e3, v0, v1, h3⟩ := pick_tot hl (m := m + 6) (a := a2) (s := s2) 14 (by omega) (by unfold Lf at *; omega)
  obtain ⟨c, a4, s4, e4, _, h4⟩ := among_tot hl (m := m + 4) (a := a3) (s := s3) [(-1), 0, 1, 2, 4611686018427387904] (by decide) (by decide) (by unfold Lf at *; omega)
  obtain ⟨d, a5, s5, e5, _, h5⟩ := among_tot hl (m := m + 2) (a := a4) (s := s4) [0, 1, 2, 3, 4, 1024, 2048, 4611686018427387904] (by decide) (by decide) (by unfold Lf at *; omega)
  have go : ∀ k, K ≤ k → spec_l1Cur_fraction.f k l a s n = (if v = 0 then some (c, d, a5, s5) else if v = 1 then some (1, 1024, a3, s3) else some (x, y, a3, s3)) := fun k hk => by
    have e : spec_mpShort.f k u (shl .i64 1 r) = some (x, y) := hK k hk
    unfold spec_l1Cur_fraction.f
    rw [w64 (by omega), e1, Option.bind_some]
    dsimp only
    rw [if_pos r0, w64 (by omega), e2, Option.bind_some]
    dsimp only
    rw [e, Option.bind_some, e3, Option.bind_some]
    dsimp only
    by_cases c0 : v = 0
    · rw [if_pos c0, if_pos c0, e4, Option.bind_some, e5, Option.bind_some]
    · rw [if_neg c0, if_neg c0]
  by_cases c0 : v = 0
  · exact ⟨c, d, a5, s5, ⟨K, fun k hk => by show spec_l1Cur_fraction.f k l a s n = _; rw [go k hk, if_pos c0]⟩, h5.less (by omega)⟩
  · by_cases c1 : v = 1
    · exact ⟨1, 1024, a3, s3, ⟨K, fun k hk => by show spec_l1Cur_fraction.f k l a s n = _; rw [go k hk, if_neg c0, if_pos c1]⟩, h3.less (by omega)⟩
    · exact ⟨x, y, a3, s3, ⟨K, fun k hk => by show spec_l1Cur_fraction.f k l a s n = _; rw [go k hk, if_neg c0, if_neg c1]⟩, h3.less (by omega)⟩
theorem loose_loop {l : List Int} (hl : Oct l) : ∀ (d k m : Nat) (a s : Int) (T U : N.Tr), d < k → T.carets = U.carets → T.carets + d ≤ 800 → Lf (m + 2 * d) a →
    ∃ (x y : ByteArray) (a' s' : Int), spec_l1Cur_loose.l0 k (d : Int) l a s (N.tx T) (N.tx U) = some (x, y, a', s') := by
  intro d
  induction d with
  | zero =>
    intro k m a s T U hk hc h8 h
    obtain ⟨k, rfl⟩ : ∃ q, k = q + 1 := ⟨k - 1, by omega⟩
    exact ⟨_, _, a, s, by rw [spec_l1Cur_loose.l0, if_neg (by omega)]⟩
  | succ d ih =>
    intro k m a s T U hk hc h8 h
    obtain ⟨k, rfl⟩ : ∃ q, k = q + 1 := ⟨k - 1, by omega⟩
    obtain ⟨r, a1, s1, e, r0, r1, h1⟩ := pick_tot hl (m := m + 2 * d) (a := a) (s := s) ((T.carets : Int) + 1) (by omega) (by unfold Lf at *; omega)
    have r2 := r1 (by omega)
    obtain ⟨T1, e1, hT1⟩ := graft_tot T r r0 (by omega) (by omega)
    obtain ⟨U1, e2, hU1⟩ := graft_tot U r r0 (by omega) (by omega)
    obtain ⟨x, y, a', s', e3⟩ := ih k m a1 s1 T1 U1 (by omega) (by omega) (by omega) h1
    refine ⟨x, y, a', s', ?_⟩
    have e0 : spec_trCarets.f (N.tx T) = some (T.carets : Int) := by unfold spec_trCarets.f; rw [N.parseT_tx, Option.bind_some, if_pos (by omega)]
    rw [spec_l1Cur_loose.l0, if_pos (by omega), e0, Option.bind_some, w64 (by omega), e, Option.bind_some, e1, Option.bind_some, e2, Option.bind_some, w64 (by omega), show ((d + 1 : Nat) : Int) - 1 = (d : Int) by omega]
    exact e3
theorem loose_tot {l : List Int} (hl : Oct l) {m : Nat} {a s : Int} (k : Nat) (hk : 120 < k) (h : Lf (m + 40) a) : ∃ (x y : ByteArray) (a' s' : Int), spec_l1Cur_loose.f k l a s = some (x, y, a', s') := by
  obtain ⟨r, a1, s1, e1, r0, r1, h1⟩ := pick_tot hl (m := m + 38) (a := a) (s := s) 4 (by omega) (by unfold Lf at *; omega)
  have r1 := r1 (by omega)
  obtain ⟨q, rfl⟩ : ∃ q : Nat, r = q := ⟨r.toNat, by omega⟩
  obtain ⟨T, U, a2, s2, e2, hT, hU, h2⟩ := surePair_tot hl (m := m + 20) (a := a1) (s := s1) q (by omega) k (by omega) (by unfold Lf at *; omega)
  obtain ⟨u, a3, s3, e3, u0, u1, h3⟩ := pick_tot hl (m := m + 18) (a := a2) (s := s2) 5 (by omega) (by unfold Lf at *; omega)
  have u1 := u1 (by omega)
  obtain ⟨v, rfl⟩ : ∃ v : Nat, u = v := ⟨u.toNat, by omega⟩
  obtain ⟨x, y, a', s', e4⟩ := loose_loop hl v k m a3 s3 T U (by omega) (by omega) (by omega) (by unfold Lf at *; omega)
  refine ⟨x, y, a', s', ?_⟩
  unfold spec_l1Cur_loose.f
  rw [e1, Option.bind_some, e2, Option.bind_some, e3, Option.bind_some]
  exact e4
theorem pair_ev {l : List Int} (hl : Oct l) {m : Nat} {a s : Int} (n : Nat) (hn : n ≤ 100) (h : Lf (m + 8 * n + 100) a) : ∃ (x y : ByteArray) (a' s' : Int), Ev (fun k => spec_l1Cur_pair.f k l a s n) (x, y, a', s') ∧ Lf m a' := by
  obtain ⟨x, y, a', s', e, _, _, h'⟩ := pair_tot hl (m := m) (a := a) (s := s) n hn 121 (by omega) h
  exact ⟨x, y, a', s', Ev.of (fun k => spec_l1Cur_pair.mono _ _ _ _ k) (k := 121) e, h'⟩
theorem drawPP_ev {l : List Int} (hl : Oct l) : ∃ v, Ev (fun k => spec_DrawProductPair.f k l) v := by
  obtain ⟨x, y, a, s, ⟨K1, h1⟩, hL⟩ := pair_ev hl (m := 1000) (a := 0) (s := 0) 4 (by omega) (by unfold Lf; omega)
  obtain ⟨z, t, a', s', ⟨K2, h2⟩, _⟩ := pair_ev hl (m := 0) (a := a) (s := s) 4 (by omega) (by unfold Lf at *; omega)
  refine ⟨(x, y, z, t), K1 + K2, fun k hk => ?_⟩
  have e1 : spec_l1Cur_pair.f k l 0 0 4 = some (x, y, a, s) := h1 k (by omega)
  have e2 : spec_l1Cur_pair.f k l a s 4 = some (z, t, a', s') := h2 k (by omega)
  show spec_DrawProductPair.f k l = _
  unfold spec_DrawProductPair.f
  rw [e1, Option.bind_some, e2, Option.bind_some]
theorem drawES_ev {l : List Int} (hl : Oct l) : ∃ v, Ev (fun k => spec_DrawEndSlopes.f k l) v := by
  obtain ⟨b, a1, s1, e1, h1⟩ := one_tot hl (m := 1000) (a := 0) (s := 0) 2 (by omega) (by unfold Lf; omega)
  by_cases hb : b = true
  · obtain ⟨x, y, a, s, e⟩ := loose_tot hl (m := 0) (a := a1) (s := s1) 121 (by omega) (by unfold Lf at *; omega)
    refine ⟨(x, y), Ev.of (fun k => spec_DrawEndSlopes.mono l k) (k := 121) ?_⟩
    show spec_DrawEndSlopes.f 121 l = _
    unfold spec_DrawEndSlopes.f spec_DrawIsReduced.f
    rw [e1, Option.bind_some, if_pos hb, e, Option.bind_some, Option.bind_some]
  · obtain ⟨x, y, a, s, e, _, _, _⟩ := pair_tot hl (m := 0) (a := a1) (s := s1) 6 (by omega) 121 (by omega) (by unfold Lf at *; omega)
    refine ⟨(x, y), Ev.of (fun k => spec_DrawEndSlopes.mono l k) (k := 121) ?_⟩
    show spec_DrawEndSlopes.f 121 l = _
    unfold spec_DrawEndSlopes.f spec_DrawIsReduced.f
    rw [e1, Option.bind_some, if_neg hb, show ((6 : Int)) = ((6 : Nat) : Int) from rfl, e, Option.bind_some, Option.bind_some]
theorem drawSB_ev {l : List Int} (hl : Oct l) : ∃ v, Ev (fun k => spec_DrawSlopesBeside.f k l) v := by
  obtain ⟨x, y, a, s, ⟨K1, h1⟩, hL⟩ := pair_ev hl (m := 1000) (a := 0) (s := 0) 6 (by omega) (by unfold Lf; omega)
  obtain ⟨z, t, a', s', ⟨K2, h2⟩, _⟩ := frac_ev hl (m := 0) (a := a) (s := s) 5 (by omega) (by unfold Lf at *; omega)
  refine ⟨(x, y, z, t), K1 + K2, fun k hk => ?_⟩
  have e1 : spec_l1Cur_pair.f k l 0 0 6 = some (x, y, a, s) := h1 k (by omega)
  have e2 : spec_l1Cur_fraction.f k l a s 5 = some (z, t, a', s') := h2 k (by omega)
  show spec_DrawSlopesBeside.f k l = _
  unfold spec_DrawSlopesBeside.f spec_DrawValueOf.f
  rw [e1, Option.bind_some, e2, Option.bind_some, Option.bind_some]
theorem drawOO_ev {l : List Int} (hl : Oct l) : ∃ v, Ev (fun k => spec_DrawOrbitOf.f k l) v := by
  obtain ⟨b, a0, s0, e0, h0⟩ := one_tot hl (m := 1000) (a := 0) (s := 0) 10 (by omega) (by unfold Lf; omega)
  obtain ⟨x, y, a, s, ⟨K1, h1⟩, hL⟩ := pair_ev hl (m := 800) (a := a0) (s := s0) 4 (by omega) (by unfold Lf at *; omega)
  by_cases hb : b = true
  · obtain ⟨z, t, a', s', ⟨K2, h2⟩, hL2⟩ := frac_ev hl (m := 700) (a := a) (s := s) 3 (by omega) (by unfold Lf at *; omega)
    obtain ⟨c, a2, s2, e3, _, _⟩ := among_tot hl (m := 0) (a := a') (s := s') [(-1), 0, 20, 21] (by decide) (by decide) (by unfold Lf at *; omega)
    refine ⟨(x, y, z, t, c), K1 + K2, fun k hk => ?_⟩
    have e1 : spec_l1Cur_pair.f k l a0 s0 4 = some (x, y, a, s) := h1 k (by omega)
    have e2 : spec_l1Cur_fraction.f k l a s 3 = some (z, t, a', s') := h2 k (by omega)
    show spec_DrawOrbitOf.f k l = _
    unfold spec_DrawOrbitOf.f
    rw [e0, Option.bind_some, if_pos hb, e1, Option.bind_some, e2, Option.bind_some, e3, Option.bind_some]
  · obtain ⟨z, t, a', s', ⟨K2, h2⟩, hL2⟩ := frac_ev hl (m := 700) (a := a) (s := s) 4 (by omega) (by unfold Lf at *; omega)
    obtain ⟨c, a2, s2, e3, _, _⟩ := pick_tot hl (m := 0) (a := a') (s := s') 6 (by omega) (by unfold Lf at *; omega)
    refine ⟨(x, y, z, t, c), K1 + K2, fun k hk => ?_⟩
    have e1 : spec_l1Cur_pair.f k l a0 s0 4 = some (x, y, a, s) := h1 k (by omega)
    have e2 : spec_l1Cur_fraction.f k l a s 4 = some (z, t, a', s') := h2 k (by omega)
    show spec_DrawOrbitOf.f k l = _
    unfold spec_DrawOrbitOf.f
    rw [e0, Option.bind_some, if_neg hb, e1, Option.bind_some, e2, Option.bind_some, e3, Option.bind_some]
end Go.Proofs.Ytijnadjgmmednaa.PA
namespace Go.Proofs.Ytijnadjgmmednaa.N
theorem ld_le : ∀ T : Tr, ld T ≤ T.carets
  | .leaf => Nat.le_refl _
  | .node l r => by have := ld_le l; simp only [ld, Tr.carets]; omega
theorem rdp_le : ∀ T : Tr, rdp T ≤ T.carets
  | .leaf => Nat.le_refl _
  | .node l r => by have := rdp_le r; simp only [rdp, Tr.carets]; omega
theorem ends_small (p : Tr × Tr) (h1 : p.1.carets ≤ 8) (h2 : p.2.carets ≤ 8) : (-8 ≤ az p ∧ az p ≤ 8) ∧ -8 ≤ bz p ∧ bz p ≤ 8 := by
  have a1 := ld_le p.1
  have a2 := ld_le p.2
  have a3 := rdp_le p.1
  have a4 := rdp_le p.2
  unfold az bz
  omega
theorem seqO_ok {A B : Tr} (hc : A.carets = B.carets) (hB : B.carets ≤ 8) {x : Nat × Nat} (hx : FrOk x) {q : Nat} (h : ∀ j, j ≤ q → (seqO A B x j).2 ≤ 1024) : ∀ j, j ≤ q → FrOk (seqO A B x j)
  | 0, _ => hx
  | j + 1, hj => by
    have i := seqO_ok hc hB hx h j (by omega)
    have := i.next A B hc hB
    show goodB (nxt A B (seqO A B x j)).1 (nxt A B (seqO A B x j)).2 = true
    rw [this, decide_eq_true]
    exact h (j + 1) hj
end Go.Proofs.Ytijnadjgmmednaa.N
namespace Go.Proofs.Ytijnadjgmmednaa.PA
open Go.RowKit Go.Proofs.YtijnadjgmmednaaW.PrintWords Go.Proofs.YtijnadjgmmednaaW.PrintLast
theorem oct_of3 {l : List Int} (h : ∀ x ∈ l, (Lit.int .u8 x).wf = true) : Oct l := fun x hx => by
  have := h x hx
  simp [Lit.wf, IntKind.min, IntKind.max, IntKind.bits, IntKind.signed] at this
  omega
theorem pairT_p {s t : ByteArray} {p : N.Tr × N.Tr} (h : N.pairT s t = some p) : s = N.tx p.1 ∧ t = N.tx p.2 ∧ p.1.carets = p.2.carets ∧ p.2.carets ≤ 8 := by
  rcases N.pairT_cases s t with ⟨A, B, rfl, rfl, h1, h2, e⟩ | ⟨g, e⟩
  · rw [e] at h
    obtain rfl := Option.some.inj h
    exact ⟨rfl, rfl, h1, h2⟩
  · rw [e] at h; cases h
theorem es_yes {s t : ByteArray} {p : N.Tr × N.Tr} (h : N.pairT s t = some p) : impl_EndSlopes.f s t = some (N.az p, N.bz p, true) := by
  obtain ⟨_, _, h1, _⟩ := pairT_p h
  obtain ⟨e1, e2⟩ := N.slp_ends h1
  unfold impl_EndSlopes.f
  rw [h]
  dsimp only
  rw [e1, e2]
theorem es_all (s t : ByteArray) : ∃ (a b : Int) (ok : Bool), (ok = false → a = 0 ∧ b = 0) ∧ impl_EndSlopes.f s t = some (a, b, ok) ∧ spec_EndSlopes.f s t = some (a, b, ok) ∧ impl_IsInner.f s t = some (ok && (a == 0 && b == 0), ok) ∧ spec_IsInner.f s t = some (ok && (a == 0 && b == 0), ok) := by
  cases h : N.pairT s t with
  | none =>
    have e1 : impl_EndSlopes.f s t = some (0, 0, false) := by unfold impl_EndSlopes.f; rw [h]
    have e2 : spec_prGood.f s t = some false := by unfold spec_prGood.f; rw [h]; rfl
    refine ⟨0, 0, false, fun _ => ⟨rfl, rfl⟩, e1, ?_, ?_, ?_⟩
    · unfold spec_EndSlopes.f
      rw [e2, Option.bind_some, if_neg (by decide)]
    · unfold impl_IsInner.f
      rw [e1, Option.bind_some, if_neg (by decide)]
      rfl
    · unfold spec_IsInner.f
      rw [e2, Option.bind_some, if_neg (by decide)]
      rfl
  | some p =>
    obtain ⟨_, _, h1, h2⟩ := pairT_p h
    have e1 := es_yes h
    have e2 : spec_prGood.f s t = some true := by unfold spec_prGood.f; rw [h]; rfl
    have e3 : spec_mpSlopes.f s t = some (N.slp p.1 p.2) := by unfold spec_mpSlopes.f; rw [h]; rfl
    have hl := N.slp_length p.1 p.2 h1
    obtain ⟨g1, g2⟩ := N.slp_ends h1
    have g1 : rd (N.slp p.1 p.2) 0 = N.az p := g1
    have g2 : rd (N.slp p.1 p.2) ((p.1.carets : Nat) : Int) = N.bz p := g2
    generalize N.slp p.1 p.2 = S at *
    generalize p.1.carets = c at *
    generalize N.az p = a at *
    generalize N.bz p = b at *
    have hw : wrap64 ((S.length : Int) - 1) = (c : Int) := by rw [hl, w64 (by omega)]; omega
    refine ⟨a, b, true, (fun h => by cases h), e1, ?_, ?_, ?_⟩
    · unfold spec_EndSlopes.f
      rw [e2, Option.bind_some, if_pos rfl, e3, Option.bind_some, hw, if_pos (by omega), if_pos (by omega), if_pos (by omega), g1, g2]
    · unfold impl_IsInner.f
      rw [e1, Option.bind_some, if_pos rfl]
      dsimp only
      by_cases ha : a = 0
      · rw [if_pos ha]; simp [ha]
      · rw [if_neg ha]; simp [ha]
    · unfold spec_IsInner.f
      rw [e2, Option.bind_some, if_pos rfl, e3, Option.bind_some, hw, if_pos (by omega), g1, g2]
      by_cases ha : a = 0
      · rw [if_pos ha, if_pos (by omega), if_pos (by omega)]; simp [ha]
      · rw [if_neg ha]; simp [ha]
theorem ff_l0 (l : List S36) (hl : l.length ≤ 1000000000) : ∀ n j : Nat, n + j = l.length → Ev (fun k => laws_fFractions.l0 k l l (l.length : Int) (j : Int)) true
  | 0, j, h => ⟨1, fun k hk => by
    obtain ⟨k, rfl⟩ : ∃ k', k = k' + 1 := ⟨k - 1, by omega⟩
    show laws_fFractions.l0 (k + 1) _ _ _ _ = _
    rw [laws_fFractions.l0, if_neg (by omega)]⟩
  | n + 1, j, h => by
    obtain ⟨K, hK⟩ := ff_l0 l hl n (j + 1) (by omega)
    refine ⟨K + 1, fun k hk => ?_⟩
    obtain ⟨k, rfl⟩ : ∃ k', k = k' + 1 := ⟨k - 1, by omega⟩
    have e1 : laws_fFractions.l0 k l l (l.length : Int) ((j + 1 : Nat) : Int) = some true := hK k (by omega)
    show laws_fFractions.l0 (k + 1) _ _ _ _ = _
    rw [laws_fFractions.l0, if_pos (by omega), if_pos (by omega), if_pos (by omega), if_pos (by omega), if_neg (by simp), w64' (by omega)]
    rwa [show ((j + 1 : Nat) : Int) = (j : Int) + 1 by omega] at e1
theorem ff_ev (l : List S36) (hl : l.length ≤ 1000000000) : Ev (fun k => laws_fFractions.f k l l) true := by
  obtain ⟨K, hK⟩ := ff_l0 l hl l.length 0 (by omega)
  refine ⟨K, fun k hk => ?_⟩
  show laws_fFractions.f k l l = _
  unfold laws_fFractions.f
  rw [if_pos rfl]
  exact hK k hk
theorem ea_l0 (l : List S36) (s t : ByteArray) (hl : l.length ≤ 1000000000) (X : Nat → S36) (hX : ∀ j, j < l.length → rd_T36 l (j : Int) = X j)
    (hV : ∀ j, j + 1 < l.length → impl_ValueOf.f s t (X j).f0 (X j).f1 = some ((X (j + 1)).f0, (X (j + 1)).f1, true))
    (hW : ∀ j, j + 2 < l.length → ∃ b, laws_fLess.f (X j).f0 (X j).f1 (X (j + 1)).f0 (X (j + 1)).f1 = some b ∧ laws_fLess.f (X (j + 1)).f0 (X (j + 1)).f1 (X (j + 2)).f0 (X (j + 2)).f1 = some b) :
    ∀ n j : Nat, n + j + 1 = l.length → Ev (fun k => laws_FnEndsAddUp.l0 k l ((j + 1 : Nat) : Int) s t) true
  | 0, j, h => ⟨1, fun k hk => by
    obtain ⟨k, rfl⟩ : ∃ k', k = k' + 1 := ⟨k - 1, by omega⟩
    show laws_FnEndsAddUp.l0 (k + 1) _ _ _ _ = _
    rw [laws_FnEndsAddUp.l0, if_neg (by omega)]⟩
  | n + 1, j, h => by
    obtain ⟨K, hK⟩ := ea_l0 l s t hl X hX hV hW n (j + 1) (by omega)
    refine ⟨K + 1, fun k hk => ?_⟩
    obtain ⟨k, rfl⟩ : ∃ k', k = k' + 1 := ⟨k - 1, by omega⟩
    have e1 : laws_FnEndsAddUp.l0 k l ((j + 1 + 1 : Nat) : Int) s t = some true := hK k (by omega)
    have v := hV j (by omega)
    show laws_FnEndsAddUp.l0 (k + 1) _ _ _ _ = _
    rw [laws_FnEndsAddUp.l0, if_pos (by omega), show wrap64 (((j + 1 : Nat) : Int) - 1) = (j : Int) by rw [w64 (by omega)]; omega, if_pos (by omega), if_pos (by omega), hX j (by omega), hX (j + 1) (by omega), v, Option.bind_some, if_pos rfl, if_pos (by omega), if_neg (by simp), show wrap64 (((j + 1 : Nat) : Int) + 1) = ((j + 1 + 1 : Nat) : Int) by rw [w64 (by omega)]; omega]
    by_cases hj : j = 0
    · rw [if_neg (by omega)]
      exact e1
    · obtain ⟨i, rfl⟩ : ∃ i, j = i + 1 := ⟨j - 1, by omega⟩
      obtain ⟨b, b1, b2⟩ := hW i (by omega)
      rw [if_pos (by omega), show wrap64 (((i + 1 + 1 : Nat) : Int) - 2) = (i : Int) by rw [w64 (by omega)]; omega, if_pos (by omega), if_pos (by omega), hX i (by omega), b1, Option.bind_some, b2, Option.bind_some, if_neg (by simp)]
      exact e1
theorem rd_fr (l : List (Nat × Nat)) (j : Nat) : rd_T36 (frS l) (j : Int) = (fun x : Nat × Nat => (⟨(x.1 : Int), (x.2 : Int)⟩ : S36)) (l.getD j (0, 0)) := by
  show (l.map fun x : Nat × Nat => (⟨(x.1 : Int), (x.2 : Int)⟩ : S36)).getD j _ = _
  rw [List.getD_eq_getElem?_getD, List.getElem?_map, List.getD_eq_getElem?_getD]
  cases l[j]? <;> rfl
theorem less_at {x y : Nat × Nat} (hx : N.FrOk x) (hy : N.FrOk y) : laws_fLess.f (x.1 : Int) (x.2 : Int) (y.1 : Int) (y.2 : Int) = some (decide (x.1 * y.2 < y.1 * x.2)) := by
  obtain ⟨k, h1, h2, h3⟩ := hx.form
  obtain ⟨i, g1, g2, g3⟩ := hy.form
  have a1 := hx.small
  have a2 := hy.small
  have b1 := Nat.mul_le_mul (show x.1 ≤ 1024 by omega) a2
  have b2 := Nat.mul_le_mul (show y.1 ≤ 1024 by omega) a1
  unfold laws_fLess.f
  rw [← Int.natCast_mul, ← Int.natCast_mul, w64 (by omega), w64 (by omega)]
  congr 1
  rw [decide_eq_decide]
  omega
theorem val_at {A B : N.Tr} (hc : A.carets = B.carets) (hB : B.carets ≤ 8) {x : Nat × Nat} (hx : N.FrOk x) (h : (N.nxt A B x).2 ≤ 1024) : impl_ValueOf.f (N.tx A) (N.tx B) (x.1 : Int) (x.2 : Int) = some (((N.nxt A B x).1 : Int), ((N.nxt A B x).2 : Int), true) := by
  have hx' : N.goodB (x.1 : Int) (x.2 : Int) = true := hx
  have e : N.frF (N.vaF A B (plN (x.1 : Int) (x.2 : Int))) = some (N.nxt A B x) := by
    unfold N.frF
    exact if_pos h
  unfold impl_ValueOf.f
  rw [N.pairT_yes hc hB]
  dsimp only
  rw [if_pos hx', e]
theorem ea_j2 (s t : ByteArray) (n d m : Int) (r1 : List S36) (r2 : Bool) (h : impl_OrbitOf.f s t n d m = some (r1, r2)) : r1.length ≤ 21 ∧ Ev (fun k => laws_FnEndsAddUp.j2 k m r1 r2 false s t n d) true := by
  rcases orb_give h with ⟨A, B, x, q, rfl, rfl, h1, h2, hx, rfl, rfl, rfl, hq, e1, e2⟩ | ⟨hn, rfl, rfl⟩
  · by_cases ho : ∀ j, j ≤ q → (N.seqO A B x j).2 ≤ 1024
    · have eo : N.orbT A B x q = some ((List.range (q + 1)).map (N.seqO A B x)) := by unfold N.orbT; rw [if_pos ho]
      rw [eo] at e1 e2
      have e2 : r2 = true := e2
      have e1 : r1 = frS ((List.range (q + 1)).map (N.seqO A B x)) := e1
      have hl : r1.length = q + 1 := by rw [e1]; simp [frS]
      have ok := N.seqO_ok h1 h2 hx ho
      have hX : ∀ j, j < r1.length → rd_T36 r1 (j : Int) = (fun j => (⟨((N.seqO A B x j).1 : Int), ((N.seqO A B x j).2 : Int)⟩ : S36)) j := by
        intro j hj
        rw [e1, rd_fr, List.getD_eq_getElem?_getD, List.getElem?_map, List.getElem?_range (by omega)]
        rfl
      refine ⟨by omega, ?_⟩
      obtain ⟨K, hK⟩ := ea_l0 r1 (N.tx A) (N.tx B) (by omega) _ hX (fun j hj => val_at h1 h2 (ok j (by omega)) (ho (j + 1) (by omega))) (fun j hj => by
        refine ⟨_, less_at (ok j (by omega)) (ok (j + 1) (by omega)), ?_⟩
        rw [show laws_fLess.f ((N.seqO A B x (j + 1)).1 : Int) ((N.seqO A B x (j + 1)).2 : Int) ((N.seqO A B x (j + 2)).1 : Int) ((N.seqO A B x (j + 2)).2 : Int) = _ from less_at (ok (j + 1) (by omega)) (ok (j + 2) (by omega))]
        congr 1
        rw [decide_eq_decide]
        exact (N.orbit_way h1 h2 (ok j (by omega)) (ok (j + 1) (by omega)) (ok (j + 2) (by omega)) rfl rfl).symm) q 0 (by omega)
      have h0 : rd_T36 r1 0 = ⟨(x.1 : Int), (x.2 : Int)⟩ := hX 0 (by omega)
      refine ⟨K + 2, fun k hk => ?_⟩
      obtain ⟨k, rfl⟩ : ∃ k', k = k' + 2 := ⟨k - 2, by omega⟩
      have e3 : laws_FnEndsAddUp.l0 k r1 1 (N.tx A) (N.tx B) = some true := hK k (by omega)
      generalize N.tx A = s at *
      generalize N.tx B = t at *
      show laws_FnEndsAddUp.j2 (k + 1 + 1) _ _ _ _ _ _ _ _ = _
      rw [laws_FnEndsAddUp.j2, if_neg (by decide), e2, if_pos rfl, if_pos (by rw [w64 (by omega)]; omega), if_pos (by omega), h0, show (!((x.1 : Int) == (x.1 : Int)) || !((x.2 : Int) == (x.2 : Int))) = false by simp, laws_FnEndsAddUp.j3, if_neg (by decide)]
      exact e3
    · have eo : N.orbT A B x q = none := by unfold N.orbT; rw [if_neg ho]
      rw [eo] at e1 e2
      have e2 : r2 = false := e2
      have e1 : r1 = [] := e1
      subst e1 e2
      refine ⟨by simp, 1, fun k hk => ?_⟩
      obtain ⟨k, rfl⟩ : ∃ k', k = k' + 1 := ⟨k - 1, by omega⟩
      show laws_FnEndsAddUp.j2 (k + 1) _ _ _ _ _ _ _ _ = _
      rw [laws_FnEndsAddUp.j2, if_neg (by decide), if_neg (by decide)]
  · refine ⟨by simp [frS], 1, fun k hk => ?_⟩
    obtain ⟨k, rfl⟩ : ∃ k', k = k' + 1 := ⟨k - 1, by omega⟩
    show laws_FnEndsAddUp.j2 (k + 1) _ _ _ _ _ _ _ _ = _
    rw [laws_FnEndsAddUp.j2, if_neg (by decide), if_neg (by decide)]
theorem ea_j1 {l0 l1 : List Int} (h0 : Oct l0) (h1 : Oct l1) : Ev (fun k => laws_FnEndsAddUp.j1 k l0 l1 false) true := by
  obtain ⟨⟨s, t, n, d⟩, K1, d1⟩ := drawSB_ev h1
  obtain ⟨⟨e, f, p, q, m⟩, K2, d2⟩ := drawOO_ev h0
  obtain ⟨⟨a, b, c⟩, hs⟩ : ∃ v, impl_SlopesBeside.f s t n d = some v := ⟨_, rfl⟩
  obtain ⟨⟨r1, r2⟩, ho⟩ : ∃ v, impl_OrbitOf.f e f p q m = some v := ⟨_, rfl⟩
  obtain ⟨hl, K3, d3⟩ := ea_j2 e f p q m r1 r2 ho
  obtain ⟨K4, d4⟩ := ff_ev r1 (by omega)
  have hs' : spec_SlopesBeside.f s t n d = some (a, b, c) := hs
  have ho' : spec_OrbitOf.f e f p q m = some (r1, r2) := ho
  refine ⟨K1 + K2 + K3 + K4 + 1, fun k hk => ?_⟩
  obtain ⟨k, rfl⟩ : ∃ k', k = k' + 1 := ⟨k - 1, by omega⟩
  have g1 : spec_DrawSlopesBeside.f k l1 = some (s, t, n, d) := d1 k (by omega)
  have g2 : spec_DrawOrbitOf.f k l0 = some (e, f, p, q, m) := d2 k (by omega)
  have g3 : laws_FnEndsAddUp.j2 k m r1 r2 false e f p q = some true := d3 k (by omega)
  have g4 : laws_fFractions.f k r1 r1 = some true := d4 k (by omega)
  show laws_FnEndsAddUp.j1 (k + 1) _ _ _ = _
  rw [laws_FnEndsAddUp.j1, if_neg (by decide), g1, Option.bind_some]
  dsimp only
  rw [hs, Option.bind_some, hs', Option.bind_some, g2, Option.bind_some]
  dsimp only
  rw [ho, Option.bind_some, ho', Option.bind_some]
  dsimp only
  rw [if_neg (by simp), if_pos rfl, if_pos rfl, if_neg (by simp), g4, Option.bind_some]
  exact g3
theorem ea_j0 {l0 l1 : List Int} (h0 : Oct l0) (h1 : Oct l1) : Ev (fun k => laws_FnEndsAddUp.j0 k l0 l1) true := by
  obtain ⟨⟨s, t⟩, K1, d1⟩ := drawES_ev h1
  obtain ⟨K2, d2⟩ := ea_j1 h0 h1
  obtain ⟨a, b, ok, hz, e1, e2, e3, e4⟩ := es_all s t
  refine ⟨K1 + K2 + 1, fun k hk => ?_⟩
  obtain ⟨k, rfl⟩ : ∃ k', k = k' + 1 := ⟨k - 1, by omega⟩
  have g1 : spec_DrawEndSlopes.f k l1 = some (s, t) := d1 k (by omega)
  have g2 : laws_FnEndsAddUp.j1 k l0 l1 false = some true := d2 k (by omega)
  show laws_FnEndsAddUp.j0 (k + 1) _ _ = _
  rw [laws_FnEndsAddUp.j0, g1, Option.bind_some]
  dsimp only
  rw [e1, Option.bind_some, e2, Option.bind_some, e3, Option.bind_some, e4, Option.bind_some]
  dsimp only
  rw [if_neg (by simp), if_pos rfl, if_pos rfl, if_neg (by simp), if_neg (by simp), if_neg (by simp)]
  cases ok with
  | false => rw [if_neg (by decide)]; exact g2
  | true =>
    rw [if_pos rfl]
    by_cases ha : a = 0
    · rw [if_pos ha, show ((true && (a == 0 && b == 0)) != (b == 0)) = false by simp [ha]]
      exact g2
    · rw [if_neg ha, show ((true && (a == 0 && b == 0)) != false) = false by simp [ha]]
      exact g2
theorem ea_law {l0 l1 : List Int} (h0 : Oct l0) (h1 : Oct l1) : ∃ k, laws_FnEndsAddUp.f k l0 l1 = some true := by
  obtain ⟨K, hK⟩ := ea_j0 h0 h1
  obtain ⟨⟨s, t, u, v⟩, K1, d1⟩ := drawPP_ev h0
  obtain ⟨b, hb⟩ : ∃ b, laws_big.f l0 l1 = some b := by
    unfold laws_big.f
    split
    · exact ⟨_, rfl⟩
    · exact ⟨_, rfl⟩
  cases b with
  | true => exact ⟨0, by unfold laws_FnEndsAddUp.f; rw [hb, Option.bind_some, if_pos rfl]⟩
  | false =>
    refine ⟨K + K1, ?_⟩
    have g0 : laws_FnEndsAddUp.j0 (K + K1) l0 l1 = some true := hK _ (by omega)
    have g1 : spec_DrawProductPair.f (K + K1) l0 = some (s, t, u, v) := d1 _ (by omega)
    have fin : ∀ (x y : ByteArray) (f : Bool) (a b c d e g : Int) (o1 o2 o3 : Bool), impl_ProductPair.f s t u v = some (x, y, f) → impl_EndSlopes.f s t = some (a, b, o1) → impl_EndSlopes.f u v = some (c, d, o2) → impl_EndSlopes.f x y = some (e, g, o3) →
        (f = true → o1 = true ∧ o2 = true ∧ o3 = true ∧ e = wrap64 (a + c) ∧ g = wrap64 (b + d)) → laws_FnEndsAddUp.f (K + K1) l0 l1 = some true := by
      intro x y f a b c d e g o1 o2 o3 p1 p2 p3 p4 p5
      unfold laws_FnEndsAddUp.f
      rw [hb, Option.bind_some, if_neg (by decide), g1, Option.bind_some]
      dsimp only
      rw [p1, Option.bind_some, p2, Option.bind_some, p3, Option.bind_some]
      dsimp only
      cases f with
      | false => rw [if_neg (by decide)]; exact g0
      | true =>
        obtain ⟨q1, q2, q3, q4, q5⟩ := p5 rfl
        rw [if_pos rfl, p4, Option.bind_some, q1, q2, q3, if_pos rfl, if_pos rfl, if_pos rfl, if_pos q4, if_pos q5]
        exact g0
    obtain ⟨⟨a, b, o1⟩, p2⟩ : ∃ v, impl_EndSlopes.f s t = some v := ⟨_, rfl⟩
    obtain ⟨⟨c, d, o2⟩, p3⟩ : ∃ z, impl_EndSlopes.f u v = some z := ⟨_, rfl⟩
    obtain ⟨⟨x, y, f⟩, p1⟩ : ∃ z, impl_ProductPair.f s t u v = some z := ⟨_, rfl⟩
    obtain ⟨⟨e, g, o3⟩, p4⟩ : ∃ z, impl_EndSlopes.f x y = some z := ⟨_, rfl⟩
    refine fin _ _ _ _ _ _ _ _ _ _ _ _ p1 p2 p3 p4 (fun hf => ?_)
    unfold impl_ProductPair.f at p1
    cases hp : N.pairT s t with
    | none =>
      rw [hp] at p1
      simp only [N.noP, Option.some.injEq, Prod.mk.injEq] at p1
      rw [← p1.2.2] at hf; cases hf
    | some p =>
      cases hq : N.pairT u v with
      | none =>
        rw [hp, hq] at p1
        simp only [N.noP, Option.some.injEq, Prod.mk.injEq] at p1
        rw [← p1.2.2] at hf; cases hf
      | some q =>
        rw [hp, hq] at p1
        obtain ⟨_, _, b1, b2⟩ := pairT_p hp
        obtain ⟨_, _, b3, b4⟩ := pairT_p hq
        have p1 := Option.some.inj p1
        simp only [N.ifF] at p1
        by_cases hm : (N.mul p q).1.carets ≤ 8
        · rw [if_pos hm] at p1
          simp only [N.okP, Prod.mk.injEq] at p1
          obtain ⟨m1, m2⟩ := N.ends_mul (p := p) (q := q) b1 b3
          have hbm := N.Bal.mul (p := p) (q := q) b1 b3
          have f1 := es_yes hp
          have f2 := es_yes hq
          have f3 := es_yes (s := x) (t := y) (p := N.mul p q) (by rw [← p1.1, ← p1.2.1]; exact N.pairT_yes hbm (by unfold N.Bal at hbm; omega))
          obtain ⟨⟨a1, a2⟩, a3, a4⟩ := N.ends_small p (by omega) (by omega)
          obtain ⟨⟨c1, c2⟩, c3, c4⟩ := N.ends_small q (by omega) (by omega)
          rw [f1] at p2
          rw [f2] at p3
          rw [f3] at p4
          simp only [Option.some.injEq, Prod.mk.injEq] at p2 p3 p4
          obtain ⟨rfl, rfl, rfl⟩ := p2
          obtain ⟨rfl, rfl, rfl⟩ := p3
          obtain ⟨rfl, rfl, rfl⟩ := p4
          rw [w64 (by omega), w64 (by omega)]
          exact ⟨rfl, rfl, rfl, m1, m2⟩
        · rw [if_neg hm] at p1
          simp only [N.noP, Prod.mk.injEq] at p1
          rw [← p1.2.2] at hf; cases hf
end Go.Proofs.Ytijnadjgmmednaa.PA
namespace Go.Proofs.Ytijnadjgmmednaa.Pure
open Go.RowKit Go.Proofs.Ytijnadjgmmednaa.PA Go.Proofs.YtijnadjgmmednaaW.PrintWords Go.Proofs.YtijnadjgmmednaaW.PrintLast
theorem FnEndsAddUp : laws_FnEndsAddUp.Pure := by
  intro l0 l1 _ _ h0 _ _ h1
  exact ea_law (oct_of3 h0) (oct_of3 h1)
end Go.Proofs.Ytijnadjgmmednaa.Pure
