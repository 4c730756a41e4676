import Derived.Test.YtgnepbogadfinaaDoorXf22
import Derived.Test.YtgnepbogadfinaaDoorXf30
/- A part of the proof: lemmas that later parts use. -/
set_option linter.unusedVariables false
set_option linter.unusedSimpArgs false
namespace Go.Proofs.YtgnepbogadfinaaDoor.PA
open Go.RowKit Go.Proofs.YtgnepbogadfinaaDoorW.PrintWords Go.Proofs.YtgnepbogadfinaaDoorW.PrintLast Go.Proofs.YtgnepbogadfinaaDoorW.PrintMore
attribute [local go_sem] max2_int min2_int max_two min_two max_three min_three max_four min_four
attribute [local go_sem high] eqA31
mutual
def laws_FnFractionsByAddresses.j0 : Nat → List Int → List Int → ByteArray → Bool → Bool → Int → Int → Option (Bool)
  | 0, _, _, _, _, _, _, _ => none
  | k + 1, x0, x1, x5, x7, x54, x260000, x260001 => if x54 = true then (some false) else (if x7 = true then ((impl_AddressOf.f k x260000 x260001 (x5.size : Int)).bind fun bt264 => ((impl_IsFraction.f x260000 x260001).bind fun t266 => (if t266 = true then (if bt264.2 = true then (if bt264.1.toList = x5.toList then (laws_FnFractionsByAddresses.j1 k x0 x1) else (some false)) else (some false)) else (some false)))) else (laws_FnFractionsByAddresses.j1 k x0 x1))
def laws_FnFractionsByAddresses.j1 : Nat → List Int → List Int → Option (Bool)
  | 0, _, _ => none
  | k + 1, x0, x1 => (spec_DrawAddressOf.f k x1).bind fun bt267 => ((impl_AddressOf.f k bt267.1 bt267.2.1 bt267.2.2).bind fun bt271 => ((spec_AddressOf.f k bt267.1 bt267.2.1 bt267.2.2).bind fun bt273 => (if (bt271.2 != bt273.2) = true then (laws_FnFractionsByAddresses.j2 k x0 x1 bt267.2.2 bt271.1 bt271.2 true bt267.1 bt267.2.1) else (laws_FnFractionsByAddresses.j2 k x0 x1 bt267.2.2 bt271.1 bt271.2 (bt271.1.toList != bt273.1.toList) bt267.1 bt267.2.1))))
def laws_FnFractionsByAddresses.j2 : Nat → List Int → List Int → Int → ByteArray → Bool → Bool → Int → Int → Option (Bool)
  | 0, _, _, _, _, _, _, _, _ => none
  | k + 1, x0, x1, x13, x14, x15, x99, x271000, x271001 => if x99 = true then (some false) else (if x15 = true then ((impl_FractionOf.f x14).bind fun bt275 => (if bt275.2.2 = true then (if (!(bt275.1 == x271000) || (!(bt275.2.1 == x271001))) = true then (some false) else (if (x14.size : Int) = x13 then (laws_FnFractionsByAddresses.j3 k x0 x1) else (some false))) else (some false))) else (laws_FnFractionsByAddresses.j3 k x0 x1))
def laws_FnFractionsByAddresses.j3 : Nat → List Int → List Int → Option (Bool)
  | 0, _, _ => none
  | k + 1, x0, x1 => (spec_DrawLeafOf.f k x1).bind fun bt279 => ((impl_LeafOf.f bt279.1 bt279.2.1 bt279.2.2).bind fun bt283 => ((spec_LeafOf.f bt279.1 bt279.2.1 bt279.2.2).bind fun bt285 => ((impl_LeafStarts.f bt279.1).bind fun bt287 => ((spec_LeafStarts.f bt279.1).bind fun bt291 => (if (bt283.2 != bt285.2) = true then (laws_FnFractionsByAddresses.j4 k x0 bt283.1 bt283.2 bt287.1 true bt279.2.1 bt279.2.2) else (if bt283.1 = bt285.1 then (if (bt287.2 != bt291.2) = true then (laws_FnFractionsByAddresses.j4 k x0 bt283.1 bt283.2 bt287.1 true bt279.2.1 bt279.2.2) else ((laws_fFractions.f k bt287.1 bt291.1).bind fun t295 => (if t295 = true then ((impl_IsTree.f bt279.1).bind fun t296 => (laws_FnFractionsByAddresses.j4 k x0 bt283.1 bt283.2 bt287.1 (bt287.2 != t296) bt279.2.1 bt279.2.2)) else (laws_FnFractionsByAddresses.j4 k x0 bt283.1 bt283.2 bt287.1 true bt279.2.1 bt279.2.2)))) else (laws_FnFractionsByAddresses.j4 k x0 bt283.1 bt283.2 bt287.1 true bt279.2.1 bt279.2.2)))))))
def laws_FnFractionsByAddresses.j4 : Nat → List Int → Int → Bool → List (S31) → Bool → Int → Int → Option (Bool)
  | 0, _, _, _, _, _, _, _ => none
  | k + 1, x0, x22, x23, x26, x170, x283000, x283001 => if x170 = true then (some false) else (laws_FnFractionsByAddresses.l0 k x0 x22 x23 x26 1 x283000 x283001)
def laws_FnFractionsByAddresses.l0 : Nat → List Int → Int → Bool → List (S31) → Int → Int → Int → Option (Bool)
  | 0, _, _, _, _, _, _, _ => none
  | k + 1, x0, x22, x23, x26, x30, x283000, x283001 => if x30 < (x26.length : Int) then (if 0 ≤ (wrap64 (x30 - 1)) then (if (wrap64 (x30 - 1)) < (x26.length : Int) then (if 0 ≤ x30 then ((laws_fLess.f ((rd_T31 x26 (wrap64 (x30 - 1))).f0) ((rd_T31 x26 (wrap64 (x30 - 1))).f1) ((rd_T31 x26 x30).f0) ((rd_T31 x26 x30).f1)).bind fun t299 => (if t299 = true then (laws_FnFractionsByAddresses.l0 k x0 x22 x23 x26 (wrap64 (x30 + 1)) x283000 x283001) else (some false))) else (none)) else (none)) else (none)) else (if x23 = true then (if 0 ≤ x22 then (if x22 < (x26.length : Int) then ((laws_fLess.f x283000 x283001 ((rd_T31 x26 x22).f0) ((rd_T31 x26 x22).f1)).bind fun t301 => (if t301 = true then (laws_FnFractionsByAddresses.j6 k x0 true) else (if (wrap64 (x22 + 1)) < (x26.length : Int) then (if 0 ≤ (wrap64 (x22 + 1)) then ((laws_fLess.f x283000 x283001 ((rd_T31 x26 (wrap64 (x22 + 1))).f0) ((rd_T31 x26 (wrap64 (x22 + 1))).f1)).bind fun t303 => (laws_FnFractionsByAddresses.j6 k x0 (!t303))) else (none)) else (laws_FnFractionsByAddresses.j6 k x0 false)))) else (none)) else (none)) else (laws_FnFractionsByAddresses.j6 k x0 false))
def laws_FnFractionsByAddresses.j6 : Nat → List Int → Bool → Option (Bool)
  | 0, _, _ => none
  | k + 1, x0, x213 => if x213 = true then (some false) else ((spec_DrawIsFraction.f k x0).bind fun bt304 => ((impl_IsFraction.f bt304.1 bt304.2).bind fun t307 => ((spec_IsFraction.f bt304.1 bt304.2).bind fun t308 => (some (t307 == t308)))))
end
def laws_FnFractionsByAddresses.f (k : Nat) (l0 : List Int) (l1 : List Int) : Option (Bool) := (laws_big.f l0 l1).bind fun t254 => (if t254 = true then (some true) else ((spec_DrawFractionOf.f k l0).bind fun t255 => ((impl_FractionOf.f t255).bind fun bt256 => ((spec_FractionOf.f k t255).bind fun bt260 => (if (bt256.2.2 != bt260.2.2) = true then (laws_FnFractionsByAddresses.j0 k l0 l1 t255 bt256.2.2 true bt256.1 bt256.2.1) else (laws_FnFractionsByAddresses.j0 k l0 l1 t255 bt256.2.2 (!(bt256.1 == bt260.1) || (!(bt256.2.1 == bt260.2.1))) bt256.1 bt256.2.1))))))
def laws_FnFractionsByAddresses.T31 : Bool × List (List Nat × List Nat) := (true, [([], []), ([], []), ([1], [1]), ([0, 2], [0, 2]), ([3], [3]), ([], []), ([], []), ([5, 6], [5, 6]), ([7], [7]), ([4, 8], [4, 8]), ([9], [9])])
def laws_FnFractionsByAddresses.B31 : List Nat := [0, 0, 2, 7, 15, 0, 0, 96, 224, 511, 1023]
theorem laws_FnFractionsByAddresses.tab31 : rtab .any (opsOf Tryd.f5 31) = laws_FnFractionsByAddresses.T31 := by kernel_rfl
theorem laws_FnFractionsByAddresses.bits31 : waitsOk laws_FnFractionsByAddresses.T31.2 laws_FnFractionsByAddresses.B31 = true := by kernel_rfl
def laws_FnFractionsByAddresses.T33 : Bool × List (List Nat × List Nat) := (true, [([], []), ([0], [0]), ([1], [1]), ([1], [1]), ([1], [1]), ([3, 4, 1], [1, 3, 4]), ([5, 1], [1, 5]), ([2, 6, 1, 1], [1, 2, 6]), ([7, 7, 1], [1, 7]), ([8], [8]), ([9, 8], [8, 9]), ([8], [8]), ([11, 8], [8, 11]), ([10, 12, 8], [8, 10, 12]), ([13, 8, 8], [8, 13]), ([14], [14]), ([14], [14]), ([14], [14]), ([17, 14], [14, 17]), ([16, 18, 14], [14, 16, 18]), ([19, 14], [14, 19]), ([15, 20, 14, 14], [14, 15, 20]), ([21, 14], [14, 21]), ([14, 22, 8], [8, 14, 22]), ([8, 23, 1], [1, 8, 23]), ([1, 24], [1, 24])])
def laws_FnFractionsByAddresses.B33 : List Nat := [0, 1, 3, 3, 3, 27, 59, 127, 255, 511, 1023, 511, 2559, 8191, 16383, 32767, 32767, 32767, 163839, 491519, 1015807, 2097151, 4194303, 8388607, 16777215, 33554431]
theorem laws_FnFractionsByAddresses.tab33 : rtab .any (opsOf Tryd.f5 33) = laws_FnFractionsByAddresses.T33 := by kernel_rfl
theorem laws_FnFractionsByAddresses.bits33 : waitsOk laws_FnFractionsByAddresses.T33.2 laws_FnFractionsByAddresses.B33 = true := by kernel_rfl
set_option maxHeartbeats 8000000 in
set_option maxRecDepth 100000 in
theorem laws_FnFractionsByAddresses.calls (k : Nat) (A0 : Option Addr) (c0 : Nat) (l0 : List Int) (A1 : Option Addr) (c1 : Nat) (l1 : List Int) (r : Bool) (w : World) (hr0 : Kd.C (Kd.int .u8) w A0 l0.length l0) (hc0 : l0.length ≤ c0) (hr1 : Kd.C (Kd.int .u8) w A1 l1.length l1) (hc1 : l1.length ≤ c1) (h : laws_FnFractionsByAddresses.f k l0 l1 = some r) (HRT : Aside0 (r = true)) :
    Calls Tryd.prog 5 #[.slice A0 l0.length c0, .slice A1 l1.length c1] w fun e w' => e = .returned (.bool r) ∧ Below w.heap.size w w' := by
  have hu31 := Tryd.underlying31
  have HR0 := Aside0.mk hr0
  have HC0 := Aside0.mk hc0
  clear hr0 hc0
  have HR1 := Aside0.mk hr1
  have HC1 := Aside0.mk hc1
  clear hr1 hc1
  have HB := Aside0.mk (Below.refl w.heap.size w)
  have H : ((laws_big.f l0 l1).bind fun t254 => (if t254 = true then (some true) else ((spec_DrawFractionOf.f k l0).bind fun t255 => ((impl_FractionOf.f t255).bind fun bt256 => ((spec_FractionOf.f k t255).bind fun bt260 => (if (bt256.2.2 != bt260.2.2) = true then (laws_FnFractionsByAddresses.j0 k l0 l1 t255 bt256.2.2 true bt256.1 bt256.2.1) else (laws_FnFractionsByAddresses.j0 k l0 l1 t255 bt256.2.2 (!(bt256.1 == bt260.1) || (!(bt256.2.1 == bt260.2.1))) bt256.1 bt256.2.1))))))) = some r := h
  clear h
  replace H := Option.bind_eq_some_iff.mp H
  obtain ⟨t254, A30, H⟩ := H
  (try dsimp only at H)
  have A3 := Aside0.mk A30
  clear A30
  by_cases c4 : t254 = true
  · subst c4
    rw [if_pos rfl] at H
    obtain rfl := Option.some.inj H
    go_enter Tryd.func5, Tryd.ntmps5
    go_wp2_with (first | ((with_reducible refine gate_callee (f := 17) rfl ?_); refine goesL_ (some 34) rfl rfl Tryd.func17 (by kernel_rfl) rfl #[.slice A0 l0.length c0, .slice A1 l1.length c1] rfl lm ?_; (with_reducible refine (laws_big.calls _ _ l0 _ _ l1 true _ ?side1 ?side2 ?side3 ?side4 A3.out).mono ?_); (case side1 => repeat (first | exact HR0.out | (with_reducible refine Kd.C_alloc ?_ _) | (with_reducible refine Kd.C_drewN ?_ _) | (with_reducible refine Kd.C_drew ?_))); (case side2 => exact HC0.out); (case side3 => repeat (first | exact HR1.out | (with_reducible refine Kd.C_alloc ?_ _) | (with_reducible refine Kd.C_drewN ?_ _) | (with_reducible refine Kd.C_drew ?_))); (case side4 => exact HC1.out); rintro e w' ⟨rfl, ⟨nd, rfl⟩⟩; refine ⟨_, rfl, ?_⟩))
    go_ret
    exact ⟨by first | rfl | (simp [errW_none, errW_some] <;> rfl) | (simp [*, errW_none, errW_some] <;> rfl), by exact lB HB.out⟩
  replace c4 := Bool.eq_false_iff.mpr c4
  subst c4
  rw [if_neg (show ¬ (false = true) by decide)] at H
  replace H := Option.bind_eq_some_iff.mp H
  obtain ⟨t255, A50, H⟩ := H
  (try dsimp only at H)
  have A5 := Aside0.mk A50
  clear A50
  replace H := Option.bind_eq_some_iff.mp H
  obtain ⟨⟨t256, t257, t258⟩, A60, H⟩ := H
  (try dsimp only at H)
  have A6 := Aside0.mk A60
  clear A60
  replace H := Option.bind_eq_some_iff.mp H
  obtain ⟨⟨t260, t261, t262⟩, A70, H⟩ := H
  (try dsimp only at H)
  have A7 := Aside0.mk A70
  clear A70
  have HC8 := Aside0.mk H
  clear H
  go_enter Tryd.func5, Tryd.ntmps5
  go_upto_region 6 with (first | ((with_reducible refine gate_callee (f := 17) rfl ?_); refine goesL_ (some 34) rfl rfl Tryd.func17 (by kernel_rfl) rfl #[.slice A0 l0.length c0, .slice A1 l1.length c1] rfl lm ?_; (with_reducible refine (laws_big.calls _ _ l0 _ _ l1 false _ ?side1 ?side2 ?side3 ?side4 A3.out).mono ?_); (case side1 => repeat (first | exact HR0.out | (with_reducible refine Kd.C_alloc ?_ _) | (with_reducible refine Kd.C_drewN ?_ _) | (with_reducible refine Kd.C_drew ?_))); (case side2 => exact HC0.out); (case side3 => repeat (first | exact HR1.out | (with_reducible refine Kd.C_alloc ?_ _) | (with_reducible refine Kd.C_drewN ?_ _) | (with_reducible refine Kd.C_drew ?_))); (case side4 => exact HC1.out); rintro e w' ⟨rfl, ⟨nd, rfl⟩⟩; refine ⟨_, rfl, ?_⟩) | ((with_reducible refine gate_callee (f := 18) rfl ?_); refine goesL_ (some 36) rfl rfl Tryd.func18 (by kernel_rfl) rfl #[.slice A0 l0.length c0] rfl lm ?_; (with_reducible refine (spec_DrawFractionOf.calls k _ _ l0 t255 _ ?side1 ?side2 A5.out).mono ?_); (case side1 => repeat (first | exact HR0.out | (with_reducible refine Kd.C_alloc ?_ _) | (with_reducible refine Kd.C_drewN ?_ _) | (with_reducible refine Kd.C_drew ?_))); (case side2 => exact HC0.out); rintro e w9 ⟨rfl, hb⟩; refine ⟨_, rfl, ?_⟩; have n0_ := Aside0.mk (below_step (lB HB.out) hb); clear HB; have HB := n0_; clear n0_; (try clear hb); (try clear hb2); (try clear hk); (try clear hi)) | ((with_reducible refine gate_callee (f := 19) rfl ?_); refine goesL_ (some 39) rfl rfl Tryd.func19 (by kernel_rfl) rfl #[.string t255] rfl lm ?_; (with_reducible refine (impl_FractionOf.calls t255 t256 t257 t258 _ A6.out).mono ?_); rintro e w10 ⟨rfl, hb⟩; refine ⟨_, rfl, ?_⟩; have n0_ := Aside0.mk (below_step (lB HB.out) hb); clear HB; have HB := n0_; clear n0_; (try clear hb); (try clear hb2); (try clear hk); (try clear hi)) | ((with_reducible refine gate_dst (N := 6) rfl ?_); (try (refine gate_guard (by rfl) ?_; dsimp only)); refine box_event ?hg (N := 6) ?hd (cs := #[.int .i64 0, .int .i64 0]) (t := 31) ?hr ?_; (case hd => rfl); (case hg => rfl); (case hr => exact lr); intro gb259 hg w11 hbox hb; have n0_ := Aside0.mk (below_step (lB HB.out) hb); have n1_ := Aside0.mk (hbox); have n2_ := gw hg (lB HB.out); have n3_ := gw hg (lB HB.out); clear HB; have HB := n0_; have BK259 := n1_; have GW259 := n2_; have GE259 := n3_; clear n0_ n1_ n2_ n3_; clear hb hbox hg; have hcz12_0 : w11.cell? ⟨gb259, 0, none⟩ = some (.int .i64 0) := (blk_cell BK259.out 0).trans rfl; have hcz12_1 : w11.cell? ⟨gb259, 1, none⟩ = some (.int .i64 0) := (blk_cell BK259.out 1).trans rfl; have hfz12_0 := blk_frozen BK259.out 0; have hfz12_1 := blk_frozen BK259.out 1) | ((with_reducible refine gate_callee (f := 20) rfl ?_); refine goesL_ (some 44) rfl rfl Tryd.func20 (by kernel_rfl) rfl #[.string t255] rfl lm ?_; (with_reducible refine (spec_FractionOf.calls k t255 t260 t261 t262 _ A7.out).mono ?_); rintro e w13 ⟨rfl, hb⟩; refine ⟨_, rfl, ?_⟩; have n0_ := Aside0.mk (blk_below (g := gb259) (o := .cells #[.int .i64 t256, .int .i64 t257] 31 (0, 0)) (by (with_reducible repeat (first | refine blk_drewN ?_ _ | refine blk_drew ?_ | refine blk_alloc ?_ _)); refine blk_put (cs := #[.int .i64 t256, .int .i64 0]) ?_ 1 _ rfl; (with_reducible repeat (first | refine blk_drewN ?_ _ | refine blk_drew ?_ | refine blk_alloc ?_ _)); refine blk_put (cs := #[.int .i64 0, .int .i64 0]) ?_ 0 _ rfl; exact lb BK259.out) hb); have n1_ := Aside0.mk (below_step (lB HB.out) hb); clear BK259 HB; have BK259 := n0_; have HB := n1_; clear n0_ n1_; (try clear hb); (try clear hb2); (try clear hk); (try clear hi)) | ((with_reducible refine gate_dst (N := 8) rfl ?_); (try (refine gate_guard (by rfl) ?_; dsimp only)); refine box_event ?hg (N := 8) ?hd (cs := #[.int .i64 0, .int .i64 0]) (t := 31) ?hr ?_; (case hd => rfl); (case hg => rfl); (case hr => exact lr); intro gb263 hg w14 hbox hb; have n0_ := Aside0.mk (blk_below (lb BK259.out) hb); have n1_ := Aside0.mk (below_step (lB HB.out) hb); have n2_ := Aside0.mk (hbox); have n3_ := gw hg (lB HB.out); have n4_ := gw hg (lB HB.out); have n5_ := na hg (lb BK259.out); have n6_ := nz hg (lb BK259.out); clear BK259 HB; have BK259 := n0_; have HB := n1_; have BK263 := n2_; have GW263 := n3_; have GE263 := n4_; have NB259_263 := n5_; have NB263_259 := n6_; clear n0_ n1_ n2_ n3_ n4_ n5_ n6_; clear hb hbox hg; have hnb15 := NB263_259.out; have hnc15 := NB259_263.out; have hcz16_0 : w14.cell? ⟨gb263, 0, none⟩ = some (.int .i64 0) := (blk_cell BK263.out 0).trans rfl; have hcz16_1 : w14.cell? ⟨gb263, 1, none⟩ = some (.int .i64 0) := (blk_cell BK263.out 1).trans rfl; have hfz16_0 := blk_frozen BK263.out 0; have hfz16_1 := blk_frozen BK263.out 1))
  (try simp only [Act.put, List.setIfInBounds_toArray, List.set_cons_zero, List.set_cons_succ])
  go_cut [54] (fun v54 wc => ∃ (kq : Nat) (x54_7 : Bool), v54 = .bool x54_7 ∧ Aside0 (laws_FnFractionsByAddresses.j0 kq l0 l1 t255 t258 x54_7 t256 t257 = some r) ∧ Aside0 (kq ≤ k) ∧ Aside0 (wc.heap[gb259]? = some (.cells #[.int .i64 t256, .int .i64 t257] 31 (0, 0))) ∧ Aside0 (Below w.heap.size w wc))
  case first =>
   as_aux_lemma =>
   have H := HC8.out
   clear HC8
   by_cases c17 : (t258 != t262) = true
   · rw [if_pos c17] at H
     have c17b0 : (t258 != t262) = true := c17
     (try (have c17b1 : decide (t258 = t262) = false := by simpa using c17))
     (try (have c17b2 : (t258 == t262) = false := by simpa using c17))
     (try (have c17b3 : ¬ (t258 = t262) := by simpa using c17))
     clear c17
     (first | rw [c17b0] | (simp only [i64_w, i32_w]; rw [c17b0]) | skip)
     have H' := Aside0.mk H
     clear H
     go_wp2
     go_meet
     case rel => exact ⟨_, (true), (by first | rfl | (simp; done) | (simp [*]; done)), H', ⟨by first | omega | exact Nat.le_refl _⟩, ⟨by (with_reducible repeat (first | refine blk_drewN ?_ _ | refine blk_drew ?_ | refine blk_alloc ?_ _)); refine blk_far ?_ NB259_263.out _; (with_reducible repeat (first | refine blk_drewN ?_ _ | refine blk_drew ?_ | refine blk_alloc ?_ _)); refine blk_far ?_ NB259_263.out _; exact lb BK259.out⟩, ⟨by exact lB HB.out⟩⟩
   rw [if_neg c17] at H
   have c17b0 : (t258 != t262) = false := by simpa using c17
   (try (have c17b1 : decide (t258 = t262) = true := by simpa using c17))
   (try (have c17b2 : (t258 == t262) = true := by simpa using c17))
   clear c17
   (first | rw [c17b0] | (simp only [i64_w, i32_w]; rw [c17b0]) | skip)
   have H' := Aside0.mk H
   clear H
   have hnb18 := NB259_263.out
   have hnc18 := NB263_259.out
   have hcz19_0 : w14.cell? ⟨gb259, 0, none⟩ = some (.int .i64 t256) := (blk_cell BK259.out 0).trans rfl
   have hcz19_1 : w14.cell? ⟨gb259, 1, none⟩ = some (.int .i64 t257) := (blk_cell BK259.out 1).trans rfl
   have hfz19_0 := blk_frozen BK259.out 0
   have hfz19_1 := blk_frozen BK259.out 1
   have hcz20_0 : w14.cell? ⟨gb263, 0, none⟩ = some (.int .i64 0) := (blk_cell BK263.out 0).trans rfl
   have hcz20_1 : w14.cell? ⟨gb263, 1, none⟩ = some (.int .i64 0) := (blk_cell BK263.out 1).trans rfl
   have hfz20_0 := blk_frozen BK263.out 0
   have hfz20_1 := blk_frozen BK263.out 1
   go_wp2
   go_meet
   case rel => exact ⟨_, ((!(t256 == t260) || (!(t257 == t261)))), (by first | rfl | (simp; done) | (simp [*]; done)), H', ⟨by first | omega | exact Nat.le_refl _⟩, ⟨by (with_reducible repeat (first | refine blk_drewN ?_ _ | refine blk_drew ?_ | refine blk_alloc ?_ _)); refine blk_far ?_ NB259_263.out _; (with_reducible repeat (first | refine blk_drewN ?_ _ | refine blk_drew ?_ | refine blk_alloc ?_ _)); refine blk_far ?_ NB259_263.out _; exact lb BK259.out⟩, ⟨by exact lB HB.out⟩⟩
  case rest =>
  as_aux_lemma =>
  clear HC8
  (try clear c1); (try clear c4); (try clear hcz12_0); (try clear hcz12_1); (try clear hcz16_0); (try clear hcz16_1); (try clear hfz12_0); (try clear hfz12_1); (try clear hfz16_0); (try clear hfz16_1)
  obtain ⟨kq, x54_7, rfl, HA, HJ7, BK259, HB⟩ := hcut
  cases kq with
  | zero => exact absurd HA.out (by simp [laws_FnFractionsByAddresses.j0])
  | succ kj7 =>
   have H := HA.out
   clear HA
   simp only [laws_FnFractionsByAddresses.j0] at H
   by_cases c21 : x54_7 = true
   · subst c21
     rw [if_pos rfl] at H
     exact absurd ((Option.some.inj H).trans HRT.out) (by decide)
   replace c21 := Bool.eq_false_iff.mpr c21
   subst c21
   rw [if_neg (show ¬ (false = true) by decide)] at H
   have HC22 := Aside0.mk H
   clear H
   go_upto_if 55 with (fail)
   go_cut [] (fun wc => ∃ (kq : Nat), Aside0 (laws_FnFractionsByAddresses.j1 kq l0 l1 = some r) ∧ Aside0 (kq ≤ kj7) ∧ Aside0 (Below w.heap.size w wc))
   case first =>
    as_aux_lemma =>
    have H := HC22.out
    clear HC22
    by_cases c23 : t258 = true
    rotate_left
    · replace c23 := Bool.eq_false_iff.mpr c23
      subst c23
      rw [if_neg (show ¬ (false = true) by decide)] at H
      have H' := Aside0.mk H
      clear H
      go_wp2
      go_meet
      case rel => exact ⟨_, H', ⟨by have := HJ7.out; first | omega | exact Nat.le_refl _⟩, ⟨by exact lB HB.out⟩⟩
    subst c23
    rw [if_pos rfl] at H
    replace H := Option.bind_eq_some_iff.mp H
    obtain ⟨⟨t264, t265⟩, A240, H⟩ := H
    (try dsimp only at H)
    have A24 := Aside0.mk A240
    clear A240
    replace H := Option.bind_eq_some_iff.mp H
    obtain ⟨t266, A250, H⟩ := H
    (try dsimp only at H)
    have A25 := Aside0.mk A250
    clear A250
    by_cases c26 : t266 = true
    rotate_left
    · replace c26 := Bool.eq_false_iff.mpr c26
      subst c26
      rw [if_neg (show ¬ (false = true) by decide)] at H
      exact absurd ((Option.some.inj H).trans HRT.out) (by decide)
    subst c26
    rw [if_pos rfl] at H
    by_cases c27 : t265 = true
    rotate_left
    · replace c27 := Bool.eq_false_iff.mpr c27
      subst c27
      rw [if_neg (show ¬ (false = true) by decide)] at H
      exact absurd ((Option.some.inj H).trans HRT.out) (by decide)
    subst c27
    rw [if_pos rfl] at H
    by_cases c28 : t264.toList = t255.toList
    rotate_left
    · rw [if_neg c28] at H
      have c28b0 : (t264.toList == t255.toList) = false := beq_eq_false_iff_ne.mpr c28
      have c28b1 : (t264.toList != t255.toList) = true := bne_iff_ne.mpr c28
      (first | rw [c28b0] | (simp only [i64_w, i32_w]; rw [c28b0]) | skip)
      exact absurd ((Option.some.inj H).trans HRT.out) (by decide)
    rw [if_pos c28] at H
    have c28b0 : (t264.toList == t255.toList) = true := beq_iff_eq.mpr c28
    have c28b1 : (t264.toList != t255.toList) = false := bne_eq_false_iff_eq.mpr c28
    clear c28
    (first | rw [c28b0] | (simp only [i64_w, i32_w]; rw [c28b0]) | skip)
    have H' := Aside0.mk H
    clear H
    have hcz29_0 : wc.cell? ⟨gb259, 0, none⟩ = some (.int .i64 t256) := (blk_cell BK259.out 0).trans rfl
    have hcz29_1 : wc.cell? ⟨gb259, 1, none⟩ = some (.int .i64 t257) := (blk_cell BK259.out 1).trans rfl
    have hfz29_0 := blk_frozen BK259.out 0
    have hfz29_1 := blk_frozen BK259.out 1
    go_wp2_with (first | ((with_reducible refine gate_callee (f := 21) rfl ?_); refine goesL_ (some 60) rfl rfl Tryd.func21 (by kernel_rfl) rfl #[.agg #[.int .i64 t256, .int .i64 t257], .int .i64 (t255.size : Int)] rfl lm ?_; (with_reducible refine (impl_AddressOf.calls kj7 t256 t257 (t255.size : Int) t264 true _ A24.out).mono ?_); rintro e w30 ⟨rfl, hb⟩; refine ⟨_, rfl, ?_⟩; have n0_ := Aside0.mk (blk_below (lb BK259.out) hb); have n1_ := Aside0.mk (below_step (lB HB.out) hb); clear BK259 HB; have BK259 := n0_; have HB := n1_; clear n0_ n1_; (try clear hb); (try clear hb2); (try clear hk); (try clear hi); have hcz31_0 : w30.cell? ⟨gb259, 0, none⟩ = some (.int .i64 t256) := (blk_cell BK259.out 0).trans rfl; have hcz31_1 : w30.cell? ⟨gb259, 1, none⟩ = some (.int .i64 t257) := (blk_cell BK259.out 1).trans rfl; have hfz31_0 := blk_frozen BK259.out 0; have hfz31_1 := blk_frozen BK259.out 1) | ((with_reducible refine gate_callee (f := 22) rfl ?_); refine goesL_ (some 64) rfl rfl Tryd.func22 (by kernel_rfl) rfl #[.agg #[.int .i64 t256, .int .i64 t257]] rfl lm ?_; (with_reducible refine (impl_IsFraction.calls t256 t257 true _ A25.out).mono ?_); rintro e w32 ⟨rfl, hb⟩; refine ⟨_, rfl, ?_⟩; have n0_ := Aside0.mk (blk_below (lb BK259.out) hb); have n1_ := Aside0.mk (below_step (lB HB.out) hb); clear BK259 HB; have BK259 := n0_; have HB := n1_; clear n0_ n1_; (try clear hb); (try clear hb2); (try clear hk); (try clear hi)))
    go_meet
    case rel => exact ⟨_, H', ⟨by have := HJ7.out; first | omega | exact Nat.le_refl _⟩, ⟨by exact lB HB.out⟩⟩
   case rest =>
   as_aux_lemma =>
   clear HC22
   (try clear c21)
   obtain ⟨kq, HA, HJ21, HB⟩ := hcut
   cases kq with
   | zero => exact absurd HA.out (by simp [laws_FnFractionsByAddresses.j1])
   | succ kj21 =>
    have H := HA.out
    clear HA
    simp only [laws_FnFractionsByAddresses.j1] at H
    replace H := Option.bind_eq_some_iff.mp H
    obtain ⟨⟨t267, t268, t269⟩, A330, H⟩ := H
    (try dsimp only at H)
    have A33 := Aside0.mk A330
    clear A330
    replace H := Option.bind_eq_some_iff.mp H
    obtain ⟨⟨t271, t272⟩, A340, H⟩ := H
    (try dsimp only at H)
    have A34 := Aside0.mk A340
    clear A340
    replace H := Option.bind_eq_some_iff.mp H
    obtain ⟨⟨t273, t274⟩, A350, H⟩ := H
    (try dsimp only at H)
    have A35 := Aside0.mk A350
    clear A350
    have HC36 := Aside0.mk H
    clear H
    go_upto_region 15 with (first | ((with_reducible refine gate_callee (f := 23) rfl ?_); refine goesL_ (some 77) rfl rfl Tryd.func23 (by kernel_rfl) rfl #[.slice A1 l1.length c1] rfl lm ?_; (with_reducible refine (spec_DrawAddressOf.calls kj21 _ _ l1 t267 t268 t269 _ ?side1 ?side2 A33.out).mono ?_); (case side1 => repeat (first | exact (Kd.C_below HR1.out HB.out) | (with_reducible refine Kd.C_alloc ?_ _) | (with_reducible refine Kd.C_drewN ?_ _) | (with_reducible refine Kd.C_drew ?_))); (case side2 => exact HC1.out); rintro e w37 ⟨rfl, hb⟩; refine ⟨_, rfl, ?_⟩; have n0_ := Aside0.mk (below_step (lB HB.out) hb); clear HB; have HB := n0_; clear n0_; (try clear hb); (try clear hb2); (try clear hk); (try clear hi)) | ((with_reducible refine gate_dst (N := 12) rfl ?_); (try (refine gate_guard (by rfl) ?_; dsimp only)); refine box_event ?hg (N := 12) ?hd (cs := #[.int .i64 0, .int .i64 0]) (t := 31) ?hr ?_; (case hd => rfl); (case hg => rfl); (case hr => exact lr); intro gb270 hg w38 hbox hb; have n0_ := Aside0.mk (below_step (lB HB.out) hb); have n1_ := Aside0.mk (hbox); have n2_ := gw hg (lB HB.out); have n3_ := gw hg (lB HB.out); clear HB; have HB := n0_; have BK270 := n1_; have GW270 := n2_; have GE270 := n3_; clear n0_ n1_ n2_ n3_; clear hb hbox hg; have hcz39_0 : w38.cell? ⟨gb270, 0, none⟩ = some (.int .i64 0) := (blk_cell BK270.out 0).trans rfl; have hcz39_1 : w38.cell? ⟨gb270, 1, none⟩ = some (.int .i64 0) := (blk_cell BK270.out 1).trans rfl; have hfz39_0 := blk_frozen BK270.out 0; have hfz39_1 := blk_frozen BK270.out 1) | ((with_reducible refine gate_callee (f := 21) rfl ?_); refine goesL_ (some 83) rfl rfl Tryd.func21 (by kernel_rfl) rfl #[.agg #[.int .i64 t267, .int .i64 t268], .int .i64 t269] rfl lm ?_; (with_reducible refine (impl_AddressOf.calls kj21 t267 t268 t269 t271 t272 _ A34.out).mono ?_); rintro e w40 ⟨rfl, hb⟩; refine ⟨_, rfl, ?_⟩; have n0_ := Aside0.mk (blk_below (g := gb270) (o := .cells #[.int .i64 t267, .int .i64 t268] 31 (0, 0)) (by (with_reducible repeat (first | refine blk_drewN ?_ _ | refine blk_drew ?_ | refine blk_alloc ?_ _)); refine blk_put (cs := #[.int .i64 t267, .int .i64 0]) ?_ 1 _ rfl; (with_reducible repeat (first | refine blk_drewN ?_ _ | refine blk_drew ?_ | refine blk_alloc ?_ _)); refine blk_put (cs := #[.int .i64 0, .int .i64 0]) ?_ 0 _ rfl; exact lb BK270.out) hb); have n1_ := Aside0.mk (below_step (lB HB.out) hb); clear BK270 HB; have BK270 := n0_; have HB := n1_; clear n0_ n1_; (try clear hb); (try clear hb2); (try clear hk); (try clear hi); have hcz41_0 : w40.cell? ⟨gb270, 0, none⟩ = some (.int .i64 t267) := (blk_cell BK270.out 0).trans rfl; have hcz41_1 : w40.cell? ⟨gb270, 1, none⟩ = some (.int .i64 t268) := (blk_cell BK270.out 1).trans rfl; have hfz41_0 := blk_frozen BK270.out 0; have hfz41_1 := blk_frozen BK270.out 1) | ((with_reducible refine gate_callee (f := 24) rfl ?_); refine goesL_ (some 89) rfl rfl Tryd.func24 (by kernel_rfl) rfl #[.agg #[.int .i64 t267, .int .i64 t268], .int .i64 t269] rfl lm ?_; (with_reducible refine (spec_AddressOf.calls kj21 t267 t268 t269 t273 t274 _ A35.out).mono ?_); rintro e w42 ⟨rfl, hb⟩; refine ⟨_, rfl, ?_⟩; have n0_ := Aside0.mk (blk_below (lb BK270.out) hb); have n1_ := Aside0.mk (below_step (lB HB.out) hb); clear BK270 HB; have BK270 := n0_; have HB := n1_; clear n0_ n1_; (try clear hb); (try clear hb2); (try clear hk); (try clear hi)))
    (try simp only [Act.put, List.setIfInBounds_toArray, List.set_cons_zero, List.set_cons_succ])
    go_cut [99] (fun v99 wc => ∃ (kq : Nat) (x99_35 : Bool), v99 = .bool x99_35 ∧ Aside0 (laws_FnFractionsByAddresses.j2 kq l0 l1 t269 t271 t272 x99_35 t267 t268 = some r) ∧ Aside0 (kq ≤ kj21) ∧ Aside0 (wc.heap[gb270]? = some (.cells #[.int .i64 t267, .int .i64 t268] 31 (0, 0))) ∧ Aside0 (Below w.heap.size w wc))
    case first =>
     as_aux_lemma =>
     have H := HC36.out
     clear HC36
     by_cases c43 : (t272 != t274) = true
     rotate_left
     · rw [if_neg c43] at H
       have c43b0 : (t272 != t274) = false := by simpa using c43
       (try (have c43b1 : decide (t272 = t274) = true := by simpa using c43))
       (try (have c43b2 : (t272 == t274) = true := by simpa using c43))
       clear c43
       (first | rw [c43b0] | (simp only [i64_w, i32_w]; rw [c43b0]) | skip)
       have H' := Aside0.mk H
       clear H
       go_wp2
       go_meet
       case rel => exact ⟨_, ((t271.toList != t273.toList)), (by first | rfl | (simp; done) | (simp [*]; done)), H', ⟨by have := HJ7.out; have := HJ21.out; first | omega | exact Nat.le_refl _⟩, ⟨lb BK270.out⟩, ⟨by exact lB HB.out⟩⟩
     rw [if_pos c43] at H
     have c43b0 : (t272 != t274) = true := c43
     (try (have c43b1 : decide (t272 = t274) = false := by simpa using c43))
     (try (have c43b2 : (t272 == t274) = false := by simpa using c43))
     (try (have c43b3 : ¬ (t272 = t274) := by simpa using c43))
     clear c43
     (first | rw [c43b0] | (simp only [i64_w, i32_w]; rw [c43b0]) | skip)
     have H' := Aside0.mk H
     clear H
     go_wp2
     go_meet
     case rel => exact ⟨_, (true), (by first | rfl | (simp; done) | (simp [*]; done)), H', ⟨by have := HJ7.out; have := HJ21.out; first | omega | exact Nat.le_refl _⟩, ⟨lb BK270.out⟩, ⟨by exact lB HB.out⟩⟩
    case rest =>
    as_aux_lemma =>
    clear HC36
    (try clear c1); (try clear hcz39_0); (try clear hcz39_1)
    (try clear hcz41_0); (try clear hcz41_1); (try clear hfz39_0); (try clear hfz39_1); (try clear hfz41_0); (try clear hfz41_1)
    obtain ⟨kq, x99_35, rfl, HA, HJ35, BK270, HB⟩ := hcut
    cases kq with
    | zero => exact absurd HA.out (by simp [laws_FnFractionsByAddresses.j2])
    | succ kj35 =>
     have H := HA.out
     clear HA
     simp only [laws_FnFractionsByAddresses.j2] at H
     by_cases c44 : x99_35 = true
     · subst c44
       rw [if_pos rfl] at H
       exact absurd ((Option.some.inj H).trans HRT.out) (by decide)
     replace c44 := Bool.eq_false_iff.mpr c44
     subst c44
     rw [if_neg (show ¬ (false = true) by decide)] at H
     have HC45 := Aside0.mk H
     clear H
     go_upto_if 100 with (fail)
     go_cut [] (fun wc => ∃ (kq : Nat), Aside0 (laws_FnFractionsByAddresses.j3 kq l0 l1 = some r) ∧ Aside0 (kq ≤ kj35) ∧ Aside0 (Below w.heap.size w wc))
     case first =>
      as_aux_lemma =>
      have H := HC45.out
      clear HC45
      by_cases c46 : t272 = true
      rotate_left
      · replace c46 := Bool.eq_false_iff.mpr c46
        subst c46
        rw [if_neg (show ¬ (false = true) by decide)] at H
        have H' := Aside0.mk H
        clear H
        go_wp2
        go_meet
        case rel => exact ⟨_, H', ⟨by have := HJ7.out; have := HJ21.out; have := HJ35.out; first | omega | exact Nat.le_refl _⟩, ⟨by exact lB HB.out⟩⟩
      subst c46
      rw [if_pos rfl] at H
      replace H := Option.bind_eq_some_iff.mp H
      obtain ⟨⟨t275, t276, t277⟩, A470, H⟩ := H
      (try dsimp only at H)
      have A47 := Aside0.mk A470
      clear A470
      by_cases c48 : t277 = true
      rotate_left
      · replace c48 := Bool.eq_false_iff.mpr c48
        subst c48
        rw [if_neg (show ¬ (false = true) by decide)] at H
        exact absurd ((Option.some.inj H).trans HRT.out) (by decide)
      subst c48
      rw [if_pos rfl] at H
      by_cases c49 : (!(t275 == t267) || (!(t276 == t268))) = true
      · rw [if_pos c49] at H
        have c49b0 : (!(t275 == t267) || (!(t276 == t268))) = true := c49
        clear c49
        (first | rw [c49b0] | (simp only [i64_w, i32_w]; rw [c49b0]) | skip)
        exact absurd ((Option.some.inj H).trans HRT.out) (by decide)
      rw [if_neg c49] at H
      have c49b0 : (!(t275 == t267) || (!(t276 == t268))) = false := by simpa using c49
      clear c49
      (first | rw [c49b0] | (simp only [i64_w, i32_w]; rw [c49b0]) | skip)
      by_cases c50 : (t271.size : Int) = t269
      rotate_left
      · rw [if_neg c50] at H
        have c50b0 : ((t271.size : Int) == t269) = false := beq_eq_false_iff_ne.mpr c50
        have c50b1 : ((t271.size : Int) != t269) = true := bne_iff_ne.mpr c50
        exact absurd ((Option.some.inj H).trans HRT.out) (by decide)
      rw [if_pos c50] at H
      have c50b0 : ((t271.size : Int) == t269) = true := beq_iff_eq.mpr c50
      have c50b1 : ((t271.size : Int) != t269) = false := bne_eq_false_iff_eq.mpr c50
      clear c50
      have H' := Aside0.mk H
      clear H
      go_wp2_with (first | ((with_reducible refine gate_callee (f := 19) rfl ?_); refine goesL_ (some 103) rfl rfl Tryd.func19 (by kernel_rfl) rfl #[.string t271] rfl lm ?_; (with_reducible refine (impl_FractionOf.calls t271 t275 t276 true _ A47.out).mono ?_); rintro e w51 ⟨rfl, hb⟩; refine ⟨_, rfl, ?_⟩; have n0_ := Aside0.mk (blk_below (lb BK270.out) hb); have n1_ := Aside0.mk (below_step (lB HB.out) hb); clear BK270 HB; have BK270 := n0_; have HB := n1_; clear n0_ n1_; (try clear hb); (try clear hb2); (try clear hk); (try clear hi)) | ((with_reducible refine gate_dst (N := 18) rfl ?_); (try (refine gate_guard (by rfl) ?_; dsimp only)); refine box_event ?hg (N := 18) ?hd (cs := #[.int .i64 0, .int .i64 0]) (t := 31) ?hr ?_; (case hd => rfl); (case hg => rfl); (case hr => exact lr); intro gb278 hg w52 hbox hb; have n0_ := Aside0.mk (blk_below (lb BK270.out) hb); have n1_ := Aside0.mk (below_step (lB HB.out) hb); have n2_ := Aside0.mk (hbox); have n3_ := gw hg (lB HB.out); have n4_ := gw hg (lB HB.out); have n5_ := na hg (lb BK270.out); have n6_ := nz hg (lb BK270.out); clear BK270 HB; have BK270 := n0_; have HB := n1_; have BK278 := n2_; have GW278 := n3_; have GE278 := n4_; have NB270_278 := n5_; have NB278_270 := n6_; clear n0_ n1_ n2_ n3_ n4_ n5_ n6_; clear hb hbox hg; have hnb53 := NB278_270.out; have hnc53 := NB270_278.out; have hcz54_0 : w52.cell? ⟨gb278, 0, none⟩ = some (.int .i64 0) := (blk_cell BK278.out 0).trans rfl; have hcz54_1 : w52.cell? ⟨gb278, 1, none⟩ = some (.int .i64 0) := (blk_cell BK278.out 1).trans rfl; have hfz54_0 := blk_frozen BK278.out 0; have hfz54_1 := blk_frozen BK278.out 1; have hcz55_0 : w52.cell? ⟨gb270, 0, none⟩ = some (.int .i64 t267) := (blk_cell BK270.out 0).trans rfl; have hcz55_1 : w52.cell? ⟨gb270, 1, none⟩ = some (.int .i64 t268) := (blk_cell BK270.out 1).trans rfl; have hfz55_0 := blk_frozen BK270.out 0; have hfz55_1 := blk_frozen BK270.out 1))
      go_meet
      case rel => exact ⟨_, H', ⟨by have := HJ7.out; have := HJ21.out; have := HJ35.out; first | omega | exact Nat.le_refl _⟩, ⟨by exact lB HB.out⟩⟩
     case rest =>
     as_aux_lemma =>
     clear HC45
     (try clear c44)
     obtain ⟨kq, HA, HJ44, HB⟩ := hcut
     cases kq with
     | zero => exact absurd HA.out (by simp [laws_FnFractionsByAddresses.j3])
     | succ kj44 =>
      have H := HA.out
      clear HA
      simp only [laws_FnFractionsByAddresses.j3] at H
      replace H := Option.bind_eq_some_iff.mp H
      obtain ⟨⟨t279, t280, t281⟩, A560, H⟩ := H
      (try dsimp only at H)
      have A56 := Aside0.mk A560
      clear A560
      replace H := Option.bind_eq_some_iff.mp H
      obtain ⟨⟨t283, t284⟩, A570, H⟩ := H
      (try dsimp only at H)
      have A57 := Aside0.mk A570
      clear A570
      replace H := Option.bind_eq_some_iff.mp H
      obtain ⟨⟨t285, t286⟩, A580, H⟩ := H
      (try dsimp only at H)
      have A58 := Aside0.mk A580
      clear A580
      replace H := Option.bind_eq_some_iff.mp H
      obtain ⟨⟨t287, t288⟩, A590, H⟩ := H
      (try dsimp only at H)
      have A59 := Aside0.mk A590
      clear A590
      replace H := Option.bind_eq_some_iff.mp H
      obtain ⟨⟨t291, t292⟩, A600, H⟩ := H
      (try dsimp only at H)
      have A60 := Aside0.mk A600
      clear A600
      have HC61 := Aside0.mk H
      clear H
      go_upto_region 26 with (first | ((with_reducible refine gate_callee (f := 25) rfl ?_); refine goesL_ (some 121) rfl rfl Tryd.func25 (by kernel_rfl) rfl #[.slice A1 l1.length c1] rfl lm ?_; (with_reducible refine (spec_DrawLeafOf.calls kj44 _ _ l1 t279 t280 t281 _ ?side1 ?side2 A56.out).mono ?_); (case side1 => repeat (first | exact (Kd.C_below HR1.out HB.out) | (with_reducible refine Kd.C_alloc ?_ _) | (with_reducible refine Kd.C_drewN ?_ _) | (with_reducible refine Kd.C_drew ?_))); (case side2 => exact HC1.out); rintro e w62 ⟨rfl, hb⟩; refine ⟨_, rfl, ?_⟩; have n0_ := Aside0.mk (below_step (lB HB.out) hb); clear HB; have HB := n0_; clear n0_; (try clear hb); (try clear hb2); (try clear hk); (try clear hi)) | ((with_reducible refine gate_dst (N := 21) rfl ?_); (try (refine gate_guard (by rfl) ?_; dsimp only)); refine box_event ?hg (N := 21) ?hd (cs := #[.int .i64 0, .int .i64 0]) (t := 31) ?hr ?_; (case hd => rfl); (case hg => rfl); (case hr => exact lr); intro gb282 hg w63 hbox hb; have n0_ := Aside0.mk (below_step (lB HB.out) hb); have n1_ := Aside0.mk (hbox); have n2_ := gw hg (lB HB.out); have n3_ := gw hg (lB HB.out); clear HB; have HB := n0_; have BK282 := n1_; have GW282 := n2_; have GE282 := n3_; clear n0_ n1_ n2_ n3_; clear hb hbox hg; have hcz64_0 : w63.cell? ⟨gb282, 0, none⟩ = some (.int .i64 0) := (blk_cell BK282.out 0).trans rfl; have hcz64_1 : w63.cell? ⟨gb282, 1, none⟩ = some (.int .i64 0) := (blk_cell BK282.out 1).trans rfl; have hfz64_0 := blk_frozen BK282.out 0; have hfz64_1 := blk_frozen BK282.out 1) | ((with_reducible refine gate_callee (f := 26) rfl ?_); refine goesL_ (some 127) rfl rfl Tryd.func26 (by kernel_rfl) rfl #[.string t279, .agg #[.int .i64 t280, .int .i64 t281]] rfl lm ?_; (with_reducible refine (impl_LeafOf.calls t279 t280 t281 t283 t284 _ A57.out).mono ?_); rintro e w65 ⟨rfl, hb⟩; refine ⟨_, rfl, ?_⟩; have n0_ := Aside0.mk (blk_below (g := gb282) (o := .cells #[.int .i64 t280, .int .i64 t281] 31 (0, 0)) (by (with_reducible repeat (first | refine blk_drewN ?_ _ | refine blk_drew ?_ | refine blk_alloc ?_ _)); refine blk_put (cs := #[.int .i64 t280, .int .i64 0]) ?_ 1 _ rfl; (with_reducible repeat (first | refine blk_drewN ?_ _ | refine blk_drew ?_ | refine blk_alloc ?_ _)); refine blk_put (cs := #[.int .i64 0, .int .i64 0]) ?_ 0 _ rfl; exact lb BK282.out) hb); have n1_ := Aside0.mk (below_step (lB HB.out) hb); clear BK282 HB; have BK282 := n0_; have HB := n1_; clear n0_ n1_; (try clear hb); (try clear hb2); (try clear hk); (try clear hi); have hcz66_0 : w65.cell? ⟨gb282, 0, none⟩ = some (.int .i64 t280) := (blk_cell BK282.out 0).trans rfl; have hcz66_1 : w65.cell? ⟨gb282, 1, none⟩ = some (.int .i64 t281) := (blk_cell BK282.out 1).trans rfl; have hfz66_0 := blk_frozen BK282.out 0; have hfz66_1 := blk_frozen BK282.out 1) | ((with_reducible refine gate_callee (f := 27) rfl ?_); refine goesL_ (some 133) rfl rfl Tryd.func27 (by kernel_rfl) rfl #[.string t279, .agg #[.int .i64 t280, .int .i64 t281]] rfl lm ?_; (with_reducible refine (spec_LeafOf.calls t279 t280 t281 t285 t286 _ A58.out).mono ?_); rintro e w67 ⟨rfl, hb⟩; refine ⟨_, rfl, ?_⟩; have n0_ := Aside0.mk (blk_below (lb BK282.out) hb); have n1_ := Aside0.mk (below_step (lB HB.out) hb); clear BK282 HB; have BK282 := n0_; have HB := n1_; clear n0_ n1_; (try clear hb); (try clear hb2); (try clear hk); (try clear hi)) | ((with_reducible refine gate_callee (f := 28) rfl ?_); refine goesL_ (some 138) rfl rfl Tryd.func28 (by kernel_rfl) rfl #[.string t279] rfl lm ?_; (with_reducible refine (impl_LeafStarts.calls t279 t287 t288 _ A59.out).mono ?_); rintro e w68 ⟨v289, rfl, ho0, hb⟩; refine ⟨_, rfl, ?_⟩; have n0_ := Aside0.mk (Kd.R_lower (Kd.R_newB ho0 (g := gb282) (o := .cells #[.int .i64 t280, .int .i64 t281] 31 (0, 0)) (lb BK282.out)) (below_size (lB HB.out))); have n1_ := Aside0.mk (blk_below (lb BK282.out) hb); have n2_ := Aside0.mk (below_step (lB HB.out) hb); clear BK282 HB; have HO290 := n0_; have BK282 := n1_; have HB := n2_; clear n0_ n1_ n2_; (try clear hb); (try clear hb2); (try clear hk); (try clear hi); (try clear ho0)) | ((with_reducible refine gate_callee (f := 29) rfl ?_); refine goesL_ (some 143) rfl rfl Tryd.func29 (by kernel_rfl) rfl #[.string t279] rfl lm ?_; (with_reducible refine (spec_LeafStarts.calls t279 t291 t292 _ A60.out).mono ?_); rintro e w69 ⟨v293, rfl, ho0, hb⟩; refine ⟨_, rfl, ?_⟩; have n0_ := Aside0.mk (Kd.R_elder' (by (with_reducible repeat (first | apply Kd.R_alloc | apply Kd.R_drewN | apply Kd.R_drew)); exact HO290.out) (Kd.R_base ho0) hb); have n1_ := Aside0.mk (Kd.R_lower (Kd.R_newB (Kd.R_new' ho0 (Kd.R_lt (by (with_reducible repeat (first | apply Kd.R_alloc | apply Kd.R_drewN | apply Kd.R_drew)); exact HO290.out))) (g := gb282) (o := .cells #[.int .i64 t280, .int .i64 t281] 31 (0, 0)) (lb BK282.out)) (below_size (lB HB.out))); have n2_ := Aside0.mk (blk_below (lb BK282.out) hb); have n3_ := Aside0.mk (below_step (lB HB.out) hb); clear HO290 BK282 HB; have HO290 := n0_; have HO294 := n1_; have BK282 := n2_; have HB := n3_; clear n0_ n1_ n2_ n3_; (try clear hb); (try clear hb2); (try clear hk); (try clear hi); (try clear ho0)))
      (try simp only [Act.put, List.setIfInBounds_toArray, List.set_cons_zero, List.set_cons_succ])
      go_cut [170] (fun v170 wc => ∃ (kq : Nat) (x170_60 : Bool), v170 = .bool x170_60 ∧ Aside0 (laws_FnFractionsByAddresses.j4 kq l0 t283 t284 t287 x170_60 t280 t281 = some r) ∧ Aside0 (kq ≤ kj44) ∧ Aside0 (Kd.R k31 31 wc w.heap.size (fun k_ => k_ ≠ gb282) v289 t287) ∧ Aside0 (wc.heap[gb282]? = some (.cells #[.int .i64 t280, .int .i64 t281] 31 (0, 0))) ∧ Aside0 (Below w.heap.size w wc))
      case first =>
       as_aux_lemma =>
       have H := HC61.out
       clear HC61
       by_cases c70 : (t284 != t286) = true
       · rw [if_pos c70] at H
         have c70b0 : (t284 != t286) = true := c70
         (try (have c70b1 : decide (t284 = t286) = false := by simpa using c70))
         (try (have c70b2 : (t284 == t286) = false := by simpa using c70))
         (try (have c70b3 : ¬ (t284 = t286) := by simpa using c70))
         clear c70
         (first | rw [c70b0] | (simp only [i64_w, i32_w]; rw [c70b0]) | skip)
         have H' := Aside0.mk H
         clear H
         go_wp2
         go_meet
         case rel => exact ⟨_, (true), (by first | rfl | (simp; done) | (simp [*]; done)), H', ⟨by have := HJ7.out; have := HJ21.out; have := HJ35.out; have := HJ44.out; first | omega | exact Nat.le_refl _⟩, ⟨by (with_reducible repeat (first | apply Kd.R_alloc | apply Kd.R_drewN | apply Kd.R_drew)); exact Kd.R_mono HO290.out (fun _ hk => hk.1.2)⟩, ⟨lb BK282.out⟩, ⟨by exact lB HB.out⟩⟩
       rw [if_neg c70] at H
       have c70b0 : (t284 != t286) = false := by simpa using c70
       (try (have c70b1 : decide (t284 = t286) = true := by simpa using c70))
       (try (have c70b2 : (t284 == t286) = true := by simpa using c70))
       clear c70
       (first | rw [c70b0] | (simp only [i64_w, i32_w]; rw [c70b0]) | skip)
       by_cases c71 : t283 = t285
       rotate_left
       · rw [if_neg c71] at H
         have c71b0 : (t283 == t285) = false := beq_eq_false_iff_ne.mpr c71
         have c71b1 : (t283 != t285) = true := bne_iff_ne.mpr c71
         have H' := Aside0.mk H
         clear H
         go_wp2
         go_meet
         case rel => exact ⟨_, (true), (by first | rfl | (simp; done) | (simp [*]; done)), H', ⟨by have := HJ7.out; have := HJ21.out; have := HJ35.out; have := HJ44.out; first | omega | exact Nat.le_refl _⟩, ⟨by (with_reducible repeat (first | apply Kd.R_alloc | apply Kd.R_drewN | apply Kd.R_drew)); exact Kd.R_mono HO290.out (fun _ hk => hk.1.2)⟩, ⟨lb BK282.out⟩, ⟨by exact lB HB.out⟩⟩
       rw [if_pos c71] at H
       have c71b0 : (t283 == t285) = true := beq_iff_eq.mpr c71
       have c71b1 : (t283 != t285) = false := bne_eq_false_iff_eq.mpr c71
       clear c71
       by_cases c72 : (t288 != t292) = true
       · rw [if_pos c72] at H
         have c72b0 : (t288 != t292) = true := c72
         (try (have c72b1 : decide (t288 = t292) = false := by simpa using c72))
         (try (have c72b2 : (t288 == t292) = false := by simpa using c72))
         (try (have c72b3 : ¬ (t288 = t292) := by simpa using c72))
         clear c72
         have H' := Aside0.mk H
         clear H
         go_wp2
         go_meet
         case rel => exact ⟨_, (true), (by first | rfl | (simp; done) | (simp [*]; done)), H', ⟨by have := HJ7.out; have := HJ21.out; have := HJ35.out; have := HJ44.out; first | omega | exact Nat.le_refl _⟩, ⟨by (with_reducible repeat (first | apply Kd.R_alloc | apply Kd.R_drewN | apply Kd.R_drew)); exact Kd.R_mono HO290.out (fun _ hk => hk.1.2)⟩, ⟨lb BK282.out⟩, ⟨by exact lB HB.out⟩⟩
       rw [if_neg c72] at H
       have c72b0 : (t288 != t292) = false := by simpa using c72
       (try (have c72b1 : decide (t288 = t292) = true := by simpa using c72))
       (try (have c72b2 : (t288 == t292) = true := by simpa using c72))
       clear c72
       replace H := Option.bind_eq_some_iff.mp H
       obtain ⟨t295, A730, H⟩ := H
       (try dsimp only at H)
       have A73 := Aside0.mk A730
       clear A730
       by_cases c74 : t295 = true
       rotate_left
       · replace c74 := Bool.eq_false_iff.mpr c74
         subst c74
         rw [if_neg (show ¬ (false = true) by decide)] at H
         have H' := Aside0.mk H
         clear H
         obtain ⟨Ao79, co79, eo79⟩ := Kd.R_slice HO290.out
         subst eo79
         obtain ⟨Ao80, co80, eo80⟩ := Kd.R_slice HO294.out
         subst eo80
         go_wp2_with (first | (go_at_call 30; (with_reducible refine (laws_fFractions.calls kj44 _ _ t287 _ _ t291 false _ ?side1 ?side2 ?side3 ?side4 A73.out).mono ?_); (case side1 => repeat (first | exact (Kd.R_reads' HO290.out).2.2 | (with_reducible refine Kd.C_alloc ?_ _) | (with_reducible refine Kd.C_drewN ?_ _) | (with_reducible refine Kd.C_drew ?_))); (case side2 => exact (Kd.R_reads' HO290.out).2.1); (case side3 => repeat (first | exact (Kd.R_reads' HO294.out).2.2 | (with_reducible refine Kd.C_alloc ?_ _) | (with_reducible refine Kd.C_drewN ?_ _) | (with_reducible refine Kd.C_drew ?_))); (case side4 => exact (Kd.R_reads' HO294.out).2.1); rintro e w' ⟨rfl, ⟨nd, rfl⟩⟩))
         go_meet
         case rel => exact ⟨_, (true), (by first | rfl | (simp; done) | (simp [*]; done)), H', ⟨by have := HJ7.out; have := HJ21.out; have := HJ35.out; have := HJ44.out; first | omega | exact Nat.le_refl _⟩, ⟨by (with_reducible repeat (first | apply Kd.R_alloc | apply Kd.R_drewN | apply Kd.R_drew)); exact Kd.R_mono HO290.out (fun _ hk => hk.1.2)⟩, ⟨lb BK282.out⟩, ⟨by exact lB HB.out⟩⟩
       subst c74
       rw [if_pos rfl] at H
       replace H := Option.bind_eq_some_iff.mp H
       obtain ⟨t296, A750, H⟩ := H
       (try dsimp only at H)
       have A75 := Aside0.mk A750
       clear A750
       have H' := Aside0.mk H
       clear H
       obtain ⟨Ao76, co76, eo76⟩ := Kd.R_slice HO290.out
       subst eo76
       obtain ⟨Ao77, co77, eo77⟩ := Kd.R_slice HO294.out
       subst eo77
       go_wp2_with (first | (go_at_call 30; (with_reducible refine (laws_fFractions.calls kj44 _ _ t287 _ _ t291 true _ ?side1 ?side2 ?side3 ?side4 A73.out).mono ?_); (case side1 => repeat (first | exact (Kd.R_reads' HO290.out).2.2 | (with_reducible refine Kd.C_alloc ?_ _) | (with_reducible refine Kd.C_drewN ?_ _) | (with_reducible refine Kd.C_drew ?_))); (case side2 => exact (Kd.R_reads' HO290.out).2.1); (case side3 => repeat (first | exact (Kd.R_reads' HO294.out).2.2 | (with_reducible refine Kd.C_alloc ?_ _) | (with_reducible refine Kd.C_drewN ?_ _) | (with_reducible refine Kd.C_drew ?_))); (case side4 => exact (Kd.R_reads' HO294.out).2.1); rintro e w' ⟨rfl, ⟨nd, rfl⟩⟩) | (go_at_call 31; (with_reducible refine (impl_IsTree.calls t279 t296 _ A75.out).mono ?_); rintro e w78 ⟨rfl, hb⟩; have n0_ := Aside0.mk (Kd.R_below (by (with_reducible repeat (first | apply Kd.R_alloc | apply Kd.R_drewN | apply Kd.R_drew)); exact HO290.out) hb); have n1_ := Aside0.mk (Kd.R_below (by (with_reducible repeat (first | apply Kd.R_alloc | apply Kd.R_drewN | apply Kd.R_drew)); exact HO294.out) hb); have n2_ := Aside0.mk (blk_below (lb BK282.out) hb); have n3_ := Aside0.mk (below_step (lB HB.out) hb); clear HO290 HO294 BK282 HB; have HO290 := n0_; have HO294 := n1_; have BK282 := n2_; have HB := n3_; clear n0_ n1_ n2_ n3_; (try clear hb); (try clear hb2); (try clear hk); (try clear hi)))
       go_meet
       case rel => exact ⟨_, ((t288 != t296)), (by first | rfl | (simp; done) | (simp [*]; done)), H', ⟨by have := HJ7.out; have := HJ21.out; have := HJ35.out; have := HJ44.out; first | omega | exact Nat.le_refl _⟩, ⟨by (with_reducible repeat (first | apply Kd.R_alloc | apply Kd.R_drewN | apply Kd.R_drew)); exact Kd.R_mono HO290.out (fun _ hk => hk.1.2)⟩, ⟨lb BK282.out⟩, ⟨by exact lB HB.out⟩⟩
      case rest =>
      as_aux_lemma =>
      clear HC61
      (try clear c1)
      (try clear hcz64_0); (try clear hcz64_1); (try clear hcz66_0); (try clear hcz66_1)
      (try clear hfz64_0); (try clear hfz64_1); (try clear hfz66_0); (try clear hfz66_1)
      obtain ⟨kq, x170_60, rfl, HA, HJ60, HO_26, BK282, HB⟩ := hcut
      cases kq with
      | zero => exact absurd HA.out (by simp [laws_FnFractionsByAddresses.j4])
      | succ kj60 =>
       have H := HA.out
       clear HA
       simp only [laws_FnFractionsByAddresses.j4] at H
       by_cases c81 : x170_60 = true
       · subst c81
         rw [if_pos rfl] at H
         exact absurd ((Option.some.inj H).trans HRT.out) (by decide)
       replace c81 := Bool.eq_false_iff.mpr c81
       subst c81
       rw [if_neg (show ¬ (false = true) by decide)] at H
       have H' := Aside0.mk H
       clear H
       go_wp2
       go_loopg [30] kj60 (fun kq v30 w' => ∃ (x30_6 : Int), v30 = .int .i64 x30_6 ∧ Aside0 (laws_FnFractionsByAddresses.l0 kq l0 t283 t284 t287 x30_6 t280 t281 = some r) ∧ Aside0 (kq ≤ kj60) ∧ Aside0 (Kd.R k31 31 w' w.heap.size (fun k_ => k_ ≠ gb282) v289 t287) ∧ Aside0 (w'.heap[gb282]? = some (.cells #[.int .i64 t280, .int .i64 t281] 31 (0, 0))) ∧ Aside0 (Below w.heap.size w w'))
       case atStart => exact ⟨(1), (by first | rfl | (simp; done) | (simp [*]; done)), H', ⟨Nat.le_refl _⟩, ⟨by (with_reducible repeat (first | apply Kd.R_alloc | apply Kd.R_drewN | apply Kd.R_drew)); exact HO_26.out⟩, ⟨lb BK282.out⟩, ⟨by exact lB HB.out⟩⟩
       case round =>
        clear H'
        (try clear c81)
        obtain ⟨x30_6, rfl, HA, HK6, HO_26, BK282, HB⟩ := hrel
        cases gk with
        | zero => exact absurd HA.out (by simp [laws_FnFractionsByAddresses.l0])
        | succ k6 =>
          have H := HA.out
          clear HA
          simp only [laws_FnFractionsByAddresses.l0] at H
          by_cases c82 : x30_6 < (t287.length : Int)
          · rw [if_pos c82] at H
            have c82b0 : decide (x30_6 < (t287.length : Int)) = true := decide_eq_true c82
            clear c82
            obtain ⟨ji83, hji83⟩ : ∃ j_ : Int, (wrap64 (x30_6 - 1)) = j_ := ⟨_, rfl⟩
            replace H : (if 0 ≤ (ji83) then (if (ji83) < (t287.length : Int) then (if 0 ≤ x30_6 then ((laws_fLess.f ((rd_T31 t287 (ji83)).f0) ((rd_T31 t287 (ji83)).f1) ((rd_T31 t287 x30_6).f0) ((rd_T31 t287 x30_6).f1)).bind fun t299 => (if t299 = true then (laws_FnFractionsByAddresses.l0 k6 l0 t283 t284 t287 (wrap64 (x30_6 + 1)) t280 t281) else (some false))) else (none)) else (none)) else (none)) = some r := by first | (rw [hji83] at H; exact H) | (simp only [hji83] at H ⊢; exact H)
            have hji83w : (IntKind.i64.wrap (x30_6 - 1)) = ji83 := (i64_w _).trans hji83
            by_cases c84 : 0 ≤ (ji83)
            · rw [if_pos c84] at H
              have c84b0 : decide (0 ≤ (ji83)) = true := decide_eq_true c84
              clear c84
              by_cases c85 : (ji83) < (t287.length : Int)
              · rw [if_pos c85] at H
                have c85b0 : decide ((ji83) < (t287.length : Int)) = true := decide_eq_true c85
                clear c85
                by_cases c86 : 0 ≤ x30_6
                · rw [if_pos c86] at H
                  have c86b0 : decide (0 ≤ x30_6) = true := decide_eq_true c86
                  clear c86
                  replace H := Option.bind_eq_some_iff.mp H
                  obtain ⟨t299, A870, H⟩ := H
                  replace H : (if t299 = true then (laws_FnFractionsByAddresses.l0 k6 l0 t283 t284 t287 (wrap64 (x30_6 + 1)) t280 t281) else (some false)) = some r := H
                  have A87 := Aside0.mk A870
                  clear A870
                  by_cases c88 : t299 = true
                  · subst c88
                    have H1 : (laws_FnFractionsByAddresses.l0 k6 l0 t283 t284 t287 (wrap64 (x30_6 + 1)) t280 t281) = some r := by rw [if_pos rfl] at H; exact H
                    clear H
                    have H := H1
                    clear H1
                    have H' := Aside0.mk H
                    clear H
                    obtain ⟨Ao89, co89, eo89⟩ := Kd.R_slice HO_26.out
                    subst eo89
                    try go_wp2
                    have n0_ := Aside0.mk (Kd.R_drew HO_26.out)
                    have n1_ := Aside0.mk (blk_drew BK282.out)
                    have n2_ := Aside0.mk (below_drew1 HB.out)
                    clear HO_26
                    clear BK282
                    clear HB
                    have HO_26 := n0_
                    have BK282 := n1_
                    have HB := n2_
                    clear n0_ n1_ n2_
                    have p297 : 0 ≤ ((ji83) : Int) := of_decide_eq_true (by first | (with_reducible assumption) | assumption)
                    have q297 : (ji83) < (t287.length : Int) := of_decide_eq_true (by first | (with_reducible assumption) | assumption)
                    obtain ⟨ad297, e297, hx297_0, hx297_1⟩ := at_T31 (Kd.R_reads' HO_26.out).2.2 (ji83) p297 q297
                    cases e297
                    replace p297 := eq_true p297
                    replace q297 := eq_true q297
                    have p298 : 0 ≤ (x30_6 : Int) := of_decide_eq_true (by first | (with_reducible assumption) | assumption)
                    have q298 : x30_6 < (t287.length : Int) := of_decide_eq_true (by first | (with_reducible assumption) | assumption)
                    obtain ⟨ad298, e298, hx298_0, hx298_1⟩ := at_T31 (Kd.R_reads' HO_26.out).2.2 x30_6 p298 q298
                    obtain rfl : ad297 = ad298 := (by injection e298)
                    replace p298 := eq_true p298
                    replace q298 := eq_true q298
                    refine start_ (n := 11) (S := fun w' => w'.cell? (ad297.add (((ji83)).toNat * 2)) = some (.int .i64 ((rd_T31 t287 (ji83)).f0)) ∧ w'.cell? ⟨(ad297.add (((ji83)).toNat * 2)).block, (ad297.add (((ji83)).toNat * 2)).off + 1, none⟩ = some (.int .i64 ((rd_T31 t287 (ji83)).f1)) ∧ w'.cell? (ad297.add ((x30_6).toNat * 2)) = some (.int .i64 ((rd_T31 t287 x30_6).f0)) ∧ w'.cell? ⟨(ad297.add ((x30_6).toNat * 2)).block, (ad297.add ((x30_6).toNat * 2)).off + 1, none⟩ = some (.int .i64 ((rd_T31 t287 x30_6).f1))) (ds := []) #[false, false, false, false, false, false, false, false, false, false, false] (by kernel_rfl) rfl rfl ⟨hx297_0, hx297_1, hx298_0, hx298_1⟩ (fun hHeld => ?_); refine with_tabW laws_FnFractionsByAddresses.tab31 laws_FnFractionsByAddresses.bits31 (fun HT_ HW_ => ?_)
                    generalize wr.drew = w90 at HO_26 BK282 HB hx297_0 hx297_1 hx298_0 hx298_1 hHeld ⊢
                    refine pure_ (i := 0) (N := some 177) (v := ?_) (a' := ?_) #[true, false, false, false, false, false, false, false, false, false, false] rfl rfl (any_of HT_.out (by kernel_rfl)) (fun _ _ _ h => h) (Or.inl ⟨by rfl, ?_⟩) ?_ ?_
                    rotate_left
                    · intro w'
                      go_simp
                      with_reducible rfl
                    rotate_left
                    · simp only [Act.put, List.setIfInBounds_toArray, List.set_cons_zero, List.set_cons_succ, i64_w, i32_w]
                      rfl
                    refine pure_ (i := 1) (N := some 178) (v := ?_) (a' := ?_) #[true, true, false, false, false, false, false, false, false, false, false] rfl rfl (any_of HT_.out (by kernel_rfl)) (fun _ _ _ h => h) (Or.inl ⟨by rfl, ?_⟩) ?_ ?_
                    rotate_left
                    · intro w'
                      go_simp
                      with_reducible rfl
                    rotate_left
                    · simp only [Act.put, List.setIfInBounds_toArray, List.set_cons_zero, List.set_cons_succ, i64_w, i32_w]
                      rfl
                    refine pure_ (i := 2) (N := some 179) (v := ?_) (a' := ?_) #[true, true, true, false, false, false, false, false, false, false, false] rfl rfl (any_of HT_.out (by kernel_rfl)) (fun _ _ _ h => h) (Or.inl ⟨by rfl, ?_⟩) ?_ ?_
                    rotate_left
                    · intro w'
                      go_simp
                      with_reducible rfl
                    rotate_left
                    · simp only [Act.put, List.setIfInBounds_toArray, List.set_cons_zero, List.set_cons_succ, i64_w, i32_w]
                      rfl
                    refine pure_ (i := 3) (N := some 180) (v := ?_) (a' := ?_) #[true, true, true, true, false, false, false, false, false, false, false] rfl rfl (any_of HT_.out (by kernel_rfl)) (fun _ _ _ h => h) (Or.inl ⟨by rfl, ?_⟩) ?_ ?_
                    rotate_left
                    · intro w'
                      go_simp
                      with_reducible rfl
                    rotate_left
                    · simp only [Act.put, List.setIfInBounds_toArray, List.set_cons_zero, List.set_cons_succ, i64_w, i32_w]
                      rfl
                    refine pure_ (i := 5) (N := some 182) (v := ?_) (a' := ?_) #[true, true, true, true, false, true, false, false, false, false, false] rfl rfl (any_of HT_.out (by kernel_rfl)) (fun _ _ _ h => h) (Or.inl ⟨by rfl, ?_⟩) ?_ ?_
                    rotate_left
                    · intro w'
                      go_simp
                      with_reducible rfl
                    rotate_left
                    · simp only [Act.put, List.setIfInBounds_toArray, List.set_cons_zero, List.set_cons_succ, i64_w, i32_w]
                      rfl
                    refine pure_ (i := 6) (N := some 183) (v := ?_) (a' := ?_) #[true, true, true, true, false, true, true, false, false, false, false] rfl rfl (any_of HT_.out (by kernel_rfl)) (fun _ _ _ h => h) (Or.inl ⟨by rfl, ?_⟩) ?_ ?_
                    rotate_left
                    · intro w'
                      go_simp
                      with_reducible rfl
                    rotate_left
                    · simp only [Act.put, List.setIfInBounds_toArray, List.set_cons_zero, List.set_cons_succ, i64_w, i32_w]
                      rfl
                    refine pure_ (i := 7) (N := some 184) (v := ?_) (a' := ?_) #[true, true, true, true, false, true, true, true, false, false, false] rfl rfl (any_of HT_.out (by kernel_rfl)) (fun _ _ _ h => h) (Or.inl ⟨by rfl, ?_⟩) ?_ ?_
                    rotate_left
                    · intro w'
                      go_simp
                      with_reducible rfl
                    rotate_left
                    · simp only [Act.put, List.setIfInBounds_toArray, List.set_cons_zero, List.set_cons_succ, i64_w, i32_w]
                      rfl
                    refine take_ (i := 4) (N := some 181) (v := ?_) (a' := ?_) #[true, true, true, true, true, true, true, true, false, false, false] rfl rfl (take_ofW HT_.out HW_.out (by kernel_rfl)) (fun _ _ _ h => h) (Or.inl ⟨by rfl, ?_⟩) hHeld ?_ ?_
                    rotate_left
                    · rintro w' ⟨s0, s1, s2, s3⟩
                      go_simp
                      with_reducible rfl
                    rotate_left
                    · simp only [Act.put, List.setIfInBounds_toArray, List.set_cons_zero, List.set_cons_succ, i64_w, i32_w]
                      rfl
                    refine take_ (i := 8) (N := some 185) (v := ?_) (a' := ?_) #[true, true, true, true, true, true, true, true, true, false, false] rfl rfl (take_ofW HT_.out HW_.out (by kernel_rfl)) (fun _ _ _ h => h) (Or.inl ⟨by rfl, ?_⟩) hHeld ?_ ?_
                    rotate_left
                    · rintro w' ⟨s0, s1, s2, s3⟩
                      go_simp
                      with_reducible rfl
                    rotate_left
                    · simp only [Act.put, List.setIfInBounds_toArray, List.set_cons_zero, List.set_cons_succ, i64_w, i32_w]
                      rfl
                    refine one_ (i := 9) (N := some 186) #[true, true, true, true, true, true, true, true, true, true, false] rfl rfl (one_of HT_.out (by kernel_rfl)) (by decide) (fun K hK => ?_)
                    refine goes_ Tryd.func32 (by kernel_rfl) rfl #[.agg #[.int .i64 ((rd_T31 t287 (ji83)).f0), .int .i64 ((rd_T31 t287 (ji83)).f1)], .agg #[.int .i64 ((rd_T31 t287 x30_6).f0), .int .i64 ((rd_T31 t287 x30_6).f1)]] (by rfl) rfl rfl (by (try simp only [List.map_toArray, List.map_cons, List.map_nil]); first | done | (simp only [hji83]; rfl) | rfl | (simp only [List.length_drop, List.length_take]; rfl)) ?_
                    with_reducible refine (laws_fLess.calls ((rd_T31 t287 (ji83)).f0) ((rd_T31 t287 (ji83)).f1) ((rd_T31 t287 x30_6).f0) ((rd_T31 t287 x30_6).f1) true _ A87.out).mono ?_
                    rintro e w91 ⟨rfl, hb⟩
                    have HS0_ := (hb.cell (World.block_lt_of_cell? _ _ (hHeld.1))).trans (hHeld.1)
                    have HS1_ := (hb.cell (World.block_lt_of_cell? _ _ (hHeld.2.1))).trans (hHeld.2.1)
                    have HS2_ := (hb.cell (World.block_lt_of_cell? _ _ (hHeld.2.2.1))).trans (hHeld.2.2.1)
                    have HS3_ := (hb.cell (World.block_lt_of_cell? _ _ (hHeld.2.2.2))).trans (hHeld.2.2.2)
                    refine ⟨_, rfl, ?_⟩
                    have n0_ := Aside0.mk (Kd.R_below (by (with_reducible repeat (first | apply Kd.R_alloc | apply Kd.R_drewN | apply Kd.R_drew)); exact HO_26.out) hb)
                    have n1_ := Aside0.mk (blk_below (lb BK282.out) hb)
                    have n2_ := Aside0.mk (below_step (lB HB.out) hb)
                    clear HO_26
                    clear BK282
                    clear HB
                    have HO_26 := n0_
                    have BK282 := n1_
                    have HB := n2_
                    clear n0_ n1_ n2_
                    (try clear hb)
                    (try clear hb2)
                    (try clear hk)
                    (try clear hi)
                    refine hK.out _ _ ⟨HS0_, HS1_, HS2_, HS3_⟩ (fun hHeld => ?_)
                    clear hK K
                    refine norm_ (a' := ?_) ?_ ?_
                    rotate_left
                    · show Act.put _ (some 186) _ = _
                      simp only [Act.put, List.setIfInBounds_toArray, List.set_cons_zero, List.set_cons_succ, i64_w, i32_w]
                      rfl
                    refine pure_ (i := 10) (N := some 187) (v := ?_) (a' := ?_) #[true, true, true, true, true, true, true, true, true, true, true] rfl rfl (any_of HT_.out (by kernel_rfl)) (fun _ _ _ h => h) (Or.inl ⟨by rfl, ?_⟩) ?_ ?_
                    rotate_left
                    · intro w'
                      go_simp
                      with_reducible rfl
                    rotate_left
                    · simp only [Act.put, List.setIfInBounds_toArray, List.set_cons_zero, List.set_cons_succ, i64_w, i32_w]
                      rfl
                    refine done_ (done_of HT_.out (by kernel_rfl)) ?_
                    try go_wp2
                    go_roundg k6
                    case measure => have := HJ7.out; have := HJ21.out; have := HJ35.out; have := HJ44.out; have := HJ60.out; have := HK6.out; omega
                    case rel => exact ⟨(wrap64 (x30_6 + 1)), (by first | rfl | (simp; done) | (simp [*]; done)), H', ⟨by have := HJ7.out; have := HJ21.out; have := HJ35.out; have := HJ44.out; have := HJ60.out; have := HK6.out; omega⟩, ⟨by (with_reducible repeat (first | apply Kd.R_alloc | apply Kd.R_drewN | apply Kd.R_drew)); exact HO_26.out⟩, ⟨lb BK282.out⟩, ⟨by exact lB HB.out⟩⟩
                  · replace c88 := Bool.eq_false_iff.mpr c88
                    subst c88
                    have H1 : (some false) = some r := by rw [if_neg (show ¬ (false = true) by decide)] at H; exact H
                    clear H
                    have H := H1
                    clear H1
                    exact absurd ((Option.some.inj H).trans HRT.out) (by decide)
                · rw [if_neg c86] at H
                  exact absurd H (by simp)
              · rw [if_neg c85] at H
                exact absurd H (by simp)
            · rw [if_neg c84] at H
              exact absurd H (by simp)
          · rw [if_neg c82] at H
            have c82b0 : decide (x30_6 < (t287.length : Int)) = false := decide_eq_false c82
            clear c82
            have HC92 := Aside0.mk H
            clear H
            obtain ⟨Ao93, co93, eo93⟩ := Kd.R_slice HO_26.out
            subst eo93
            go_upto_region 33 with (fail)
            go_cut [213] (fun v213 wc => ∃ (kq : Nat) (x213_91 : Bool), v213 = .bool x213_91 ∧ Aside0 (laws_FnFractionsByAddresses.j6 kq l0 x213_91 = some r) ∧ Aside0 (kq ≤ k6) ∧ Aside0 (Below w.heap.size w wc))
            case first =>
              as_aux_lemma =>
                have H := HC92.out
                clear HC92
                by_cases c94 : t284 = true
                · subst c94
                  have H1 : (if 0 ≤ t283 then (if t283 < (t287.length : Int) then ((laws_fLess.f t280 t281 ((rd_T31 t287 t283).f0) ((rd_T31 t287 t283).f1)).bind fun t301 => (if t301 = true then (laws_FnFractionsByAddresses.j6 k6 l0 true) else (if (wrap64 (t283 + 1)) < (t287.length : Int) then (if 0 ≤ (wrap64 (t283 + 1)) then ((laws_fLess.f t280 t281 ((rd_T31 t287 (wrap64 (t283 + 1))).f0) ((rd_T31 t287 (wrap64 (t283 + 1))).f1)).bind fun t303 => (laws_FnFractionsByAddresses.j6 k6 l0 (!t303))) else (none)) else (laws_FnFractionsByAddresses.j6 k6 l0 false)))) else (none)) else (none)) = some r := by rw [if_pos rfl] at H; exact H
                  clear H
                  have H := H1
                  clear H1
                  by_cases c95 : 0 ≤ t283
                  · rw [if_pos c95] at H
                    have c95b0 : decide (0 ≤ t283) = true := decide_eq_true c95
                    clear c95
                    (first | rw [c95b0] | (simp only [i64_w, i32_w]; rw [c95b0]) | skip)
                    by_cases c96 : t283 < (t287.length : Int)
                    · rw [if_pos c96] at H
                      have c96b0 : decide (t283 < (t287.length : Int)) = true := decide_eq_true c96
                      clear c96
                      replace H := Option.bind_eq_some_iff.mp H
                      obtain ⟨t301, A970, H⟩ := H
                      replace H : (if t301 = true then (laws_FnFractionsByAddresses.j6 k6 l0 true) else (if (wrap64 (t283 + 1)) < (t287.length : Int) then (if 0 ≤ (wrap64 (t283 + 1)) then ((laws_fLess.f t280 t281 ((rd_T31 t287 (wrap64 (t283 + 1))).f0) ((rd_T31 t287 (wrap64 (t283 + 1))).f1)).bind fun t303 => (laws_FnFractionsByAddresses.j6 k6 l0 (!t303))) else (none)) else (laws_FnFractionsByAddresses.j6 k6 l0 false))) = some r := H
                      have A97 := Aside0.mk A970
                      clear A970
                      by_cases c98 : t301 = true
                      · subst c98
                        have H1 : (laws_FnFractionsByAddresses.j6 k6 l0 true) = some r := by rw [if_pos rfl] at H; exact H
                        clear H
                        have H := H1
                        clear H1
                        have H' := Aside0.mk H
                        clear H
                        try go_wp2
                        have n0_ := Aside0.mk (Kd.R_drew HO_26.out)
                        have n1_ := Aside0.mk (blk_drew BK282.out)
                        have n2_ := Aside0.mk (below_drew1 HB.out)
                        clear HO_26
                        clear BK282
                        clear HB
                        have HO_26 := n0_
                        have BK282 := n1_
                        have HB := n2_
                        clear n0_ n1_ n2_
                        have p300 : 0 ≤ (t283 : Int) := of_decide_eq_true (by first | (with_reducible assumption) | assumption)
                        have q300 : t283 < (t287.length : Int) := of_decide_eq_true (by first | (with_reducible assumption) | assumption)
                        obtain ⟨ad300, e300, hx300_0, hx300_1⟩ := at_T31 (Kd.R_reads' HO_26.out).2.2 t283 p300 q300
                        cases e300
                        replace p300 := eq_true p300
                        replace q300 := eq_true q300
                        refine start_ (n := 26) (S := fun w' => w'.cell? ⟨gb282, 0, none⟩ = some (.int .i64 t280) ∧ w'.cell? ⟨gb282, 1, none⟩ = some (.int .i64 t281) ∧ w'.cell? (ad300.add ((t283).toNat * 2)) = some (.int .i64 ((rd_T31 t287 t283).f0)) ∧ w'.cell? ⟨(ad300.add ((t283).toNat * 2)).block, (ad300.add ((t283).toNat * 2)).off + 1, none⟩ = some (.int .i64 ((rd_T31 t287 t283).f1))) (ds := []) #[false, false, false, false, false, false, false, false, false, false, false, false, false, false, false, false, false, false, false, false, false, false, false, false, false, false] (by kernel_rfl) rfl rfl ⟨(blk_cell BK282.out 0).trans rfl, (blk_cell BK282.out 1).trans rfl, hx300_0, hx300_1⟩ (fun hHeld => ?_); refine with_tabW laws_FnFractionsByAddresses.tab33 laws_FnFractionsByAddresses.bits33 (fun HT_ HW_ => ?_)
                        generalize wr.drew = w99 at HO_26 BK282 HB hx300_0 hx300_1 hHeld ⊢
                        refine pure_ (i := 0) (N := some 188) (v := ?_) (a' := ?_) #[true, false, false, false, false, false, false, false, false, false, false, false, false, false, false, false, false, false, false, false, false, false, false, false, false, false] rfl rfl (any_of HT_.out (by kernel_rfl)) (fun _ _ _ h => h) (Or.inl ⟨by rfl, ?_⟩) ?_ ?_
                        rotate_left
                        · intro w'
                          go_simp
                          with_reducible rfl
                        rotate_left
                        · simp only [Act.put, List.setIfInBounds_toArray, List.set_cons_zero, List.set_cons_succ, i64_w, i32_w]
                          rfl
                        refine pure_ (i := 1) (N := some 189) (v := ?_) (a' := ?_) #[true, true, false, false, false, false, false, false, false, false, false, false, false, false, false, false, false, false, false, false, false, false, false, false, false, false] rfl rfl (any_of HT_.out (by kernel_rfl)) (fun _ _ _ h => h) (Or.inl ⟨by rfl, ?_⟩) ?_ ?_
                        rotate_left
                        · intro w'
                          go_simp
                          with_reducible rfl
                        rotate_left
                        · simp only [Act.put, List.setIfInBounds_toArray, List.set_cons_zero, List.set_cons_succ, i64_w, i32_w]
                          rfl
                        refine pure_ (i := 3) (N := some 191) (v := ?_) (a' := ?_) #[true, true, false, true, false, false, false, false, false, false, false, false, false, false, false, false, false, false, false, false, false, false, false, false, false, false] rfl rfl (any_of HT_.out (by kernel_rfl)) (fun _ _ _ h => h) (Or.inl ⟨by rfl, ?_⟩) ?_ ?_
                        rotate_left
                        · intro w'
                          go_simp
                          with_reducible rfl
                        rotate_left
                        · simp only [Act.put, List.setIfInBounds_toArray, List.set_cons_zero, List.set_cons_succ, i64_w, i32_w]
                          rfl
                        refine pure_ (i := 4) (N := some 192) (v := ?_) (a' := ?_) #[true, true, false, true, true, false, false, false, false, false, false, false, false, false, false, false, false, false, false, false, false, false, false, false, false, false] rfl rfl (any_of HT_.out (by kernel_rfl)) (fun _ _ _ h => h) (Or.inl ⟨by rfl, ?_⟩) ?_ ?_
                        rotate_left
                        · intro w'
                          go_simp
                          with_reducible rfl
                        rotate_left
                        · simp only [Act.put, List.setIfInBounds_toArray, List.set_cons_zero, List.set_cons_succ, i64_w, i32_w]
                          rfl
                        refine pure_ (i := 5) (N := some 193) (v := ?_) (a' := ?_) #[true, true, false, true, true, true, false, false, false, false, false, false, false, false, false, false, false, false, false, false, false, false, false, false, false, false] rfl rfl (any_of HT_.out (by kernel_rfl)) (fun _ _ _ h => h) (Or.inl ⟨by rfl, ?_⟩) ?_ ?_
                        rotate_left
                        · intro w'
                          go_simp
                          with_reducible rfl
                        rotate_left
                        · simp only [Act.put, List.setIfInBounds_toArray, List.set_cons_zero, List.set_cons_succ, i64_w, i32_w]
                          rfl
                        refine take_ (i := 2) (N := some 190) (v := ?_) (a' := ?_) #[true, true, true, true, true, true, false, false, false, false, false, false, false, false, false, false, false, false, false, false, false, false, false, false, false, false] rfl rfl (take_ofW HT_.out HW_.out (by kernel_rfl)) (fun _ _ _ h => h) (Or.inl ⟨by rfl, ?_⟩) hHeld ?_ ?_
                        rotate_left
                        · rintro w' ⟨s0, s1, s2, s3⟩
                          go_simp
                          with_reducible rfl
                        rotate_left
                        · simp only [Act.put, List.setIfInBounds_toArray, List.set_cons_zero, List.set_cons_succ, i64_w, i32_w]
                          rfl
                        refine take_ (i := 6) (N := some 194) (v := ?_) (a' := ?_) #[true, true, true, true, true, true, true, false, false, false, false, false, false, false, false, false, false, false, false, false, false, false, false, false, false, false] rfl rfl (take_ofW HT_.out HW_.out (by kernel_rfl)) (fun _ _ _ h => h) (Or.inl ⟨by rfl, ?_⟩) hHeld ?_ ?_
                        rotate_left
                        · rintro w' ⟨s0, s1, s2, s3⟩
                          go_simp
                          with_reducible rfl
                        rotate_left
                        · simp only [Act.put, List.setIfInBounds_toArray, List.set_cons_zero, List.set_cons_succ, i64_w, i32_w]
                          rfl
                        refine one_ (i := 7) (N := some 195) #[true, true, true, true, true, true, true, true, false, false, false, false, false, false, false, false, false, false, false, false, false, false, false, false, false, false] rfl rfl (one_of HT_.out (by kernel_rfl)) (by decide) (fun K hK => ?_)
                        refine goes_ Tryd.func32 (by kernel_rfl) rfl #[.agg #[.int .i64 t280, .int .i64 t281], .agg #[.int .i64 ((rd_T31 t287 t283).f0), .int .i64 ((rd_T31 t287 t283).f1)]] (by rfl) rfl rfl lm ?_
                        with_reducible refine (laws_fLess.calls t280 t281 ((rd_T31 t287 t283).f0) ((rd_T31 t287 t283).f1) true _ A97.out).mono ?_
                        rintro e w100 ⟨rfl, hb⟩
                        have HS2_ := (hb.cell (World.block_lt_of_cell? _ _ (hHeld.2.2.1))).trans (hHeld.2.2.1)
                        have HS3_ := (hb.cell (World.block_lt_of_cell? _ _ (hHeld.2.2.2))).trans (hHeld.2.2.2)
                        refine ⟨_, rfl, ?_⟩
                        have n0_ := Aside0.mk (Kd.R_below (by (with_reducible repeat (first | apply Kd.R_alloc | apply Kd.R_drewN | apply Kd.R_drew)); exact HO_26.out) hb)
                        have n1_ := Aside0.mk (blk_below (lb BK282.out) hb)
                        have n2_ := Aside0.mk (below_step (lB HB.out) hb)
                        clear HO_26
                        clear BK282
                        clear HB
                        have HO_26 := n0_
                        have BK282 := n1_
                        have HB := n2_
                        clear n0_ n1_ n2_
                        (try clear hb)
                        refine hK.out _ _ ⟨(blk_cell BK282.out 0).trans rfl, (blk_cell BK282.out 1).trans rfl, HS2_, HS3_⟩ (fun hHeld => ?_)
                        clear hK K
                        refine norm_ (a' := ?_) ?_ ?_
                        rotate_left
                        · show Act.put _ (some 195) _ = _
                          simp only [Act.put, List.setIfInBounds_toArray, List.set_cons_zero, List.set_cons_succ, i64_w, i32_w]
                          rfl
                        refine pure_ (i := 8) (N := some 196) (v := ?_) (a' := ?_) #[true, true, true, true, true, true, true, true, true, false, false, false, false, false, false, false, false, false, false, false, false, false, false, false, false, false] rfl rfl (any_of HT_.out (by kernel_rfl)) (fun _ _ _ h => h) (Or.inl ⟨by rfl, ?_⟩) ?_ ?_
                        rotate_left
                        · intro w'
                          go_simp
                          with_reducible rfl
                        rotate_left
                        · simp only [Act.put, List.setIfInBounds_toArray, List.set_cons_zero, List.set_cons_succ, i64_w, i32_w]
                          rfl
                        refine pure_ (i := 9) (N := some 197) (v := undef) (a' := ?_) #[true, true, true, true, true, true, true, true, true, true, false, false, false, false, false, false, false, false, false, false, false, false, false, false, false, false] rfl rfl (any_of HT_.out (by kernel_rfl)) (fun _ _ _ h => h) (Or.inr ⟨by rfl, rfl⟩) ?_ ?_
                        rotate_left
                        · simp only [Act.put, List.setIfInBounds_toArray, List.set_cons_zero, List.set_cons_succ, i64_w, i32_w]
                          rfl
                        refine pure_ (i := 10) (N := some 198) (v := undef) (a' := ?_) #[true, true, true, true, true, true, true, true, true, true, true, false, false, false, false, false, false, false, false, false, false, false, false, false, false, false] rfl rfl (any_of HT_.out (by kernel_rfl)) (fun _ _ _ h => h) (Or.inr ⟨by rfl, rfl⟩) ?_ ?_
                        rotate_left
                        · simp only [Act.put, List.setIfInBounds_toArray, List.set_cons_zero, List.set_cons_succ, i64_w, i32_w]
                          rfl
                        refine pure_ (i := 11) (N := some 199) (v := undef) (a' := ?_) #[true, true, true, true, true, true, true, true, true, true, true, true, false, false, false, false, false, false, false, false, false, false, false, false, false, false] rfl rfl (any_of HT_.out (by kernel_rfl)) (fun _ _ _ h => h) (Or.inr ⟨by rfl, rfl⟩) ?_ ?_
                        rotate_left
                        · simp only [Act.put, List.setIfInBounds_toArray, List.set_cons_zero, List.set_cons_succ, i64_w, i32_w]
                          rfl
                        refine pure_ (i := 12) (N := some 200) (v := undef) (a' := ?_) #[true, true, true, true, true, true, true, true, true, true, true, true, true, false, false, false, false, false, false, false, false, false, false, false, false, false] rfl rfl (any_of HT_.out (by kernel_rfl)) (fun _ _ _ h => h) (Or.inr ⟨by rfl, rfl⟩) ?_ ?_
                        rotate_left
                        · simp only [Act.put, List.setIfInBounds_toArray, List.set_cons_zero, List.set_cons_succ, i64_w, i32_w]
                          rfl
                        refine pure_ (i := 13) (N := some 201) (v := undef) (a' := ?_) #[true, true, true, true, true, true, true, true, true, true, true, true, true, true, false, false, false, false, false, false, false, false, false, false, false, false] rfl rfl (any_of HT_.out (by kernel_rfl)) (fun _ _ _ h => h) (Or.inr ⟨by rfl, rfl⟩) ?_ ?_
                        rotate_left
                        · simp only [Act.put, List.setIfInBounds_toArray, List.set_cons_zero, List.set_cons_succ, i64_w, i32_w]
                          rfl
                        refine pure_ (i := 14) (N := some 202) (v := undef) (a' := ?_) #[true, true, true, true, true, true, true, true, true, true, true, true, true, true, true, false, false, false, false, false, false, false, false, false, false, false] rfl rfl (any_of HT_.out (by kernel_rfl)) (fun _ _ _ h => h) (Or.inr ⟨by rfl, rfl⟩) ?_ ?_
                        rotate_left
                        · simp only [Act.put, List.setIfInBounds_toArray, List.set_cons_zero, List.set_cons_succ, i64_w, i32_w]
                          rfl
                        refine pure_ (i := 15) (N := some 203) (v := undef) (a' := ?_) #[true, true, true, true, true, true, true, true, true, true, true, true, true, true, true, true, false, false, false, false, false, false, false, false, false, false] rfl rfl (any_of HT_.out (by kernel_rfl)) (fun _ _ _ h => h) (Or.inr ⟨by rfl, rfl⟩) ?_ ?_
                        rotate_left
                        · simp only [Act.put, List.setIfInBounds_toArray, List.set_cons_zero, List.set_cons_succ, i64_w, i32_w]
                          rfl
                        refine pure_ (i := 16) (N := some 204) (v := undef) (a' := ?_) #[true, true, true, true, true, true, true, true, true, true, true, true, true, true, true, true, true, false, false, false, false, false, false, false, false, false] rfl rfl (any_of HT_.out (by kernel_rfl)) (fun _ _ _ h => h) (Or.inr ⟨by rfl, rfl⟩) ?_ ?_
                        rotate_left
                        · simp only [Act.put, List.setIfInBounds_toArray, List.set_cons_zero, List.set_cons_succ, i64_w, i32_w]
                          rfl
                        refine pure_ (i := 17) (N := some 205) (v := undef) (a' := ?_) #[true, true, true, true, true, true, true, true, true, true, true, true, true, true, true, true, true, true, false, false, false, false, false, false, false, false] rfl rfl (any_of HT_.out (by kernel_rfl)) (fun _ _ _ h => h) (Or.inr ⟨by rfl, rfl⟩) ?_ ?_
                        rotate_left
                        · simp only [Act.put, List.setIfInBounds_toArray, List.set_cons_zero, List.set_cons_succ, i64_w, i32_w]
                          rfl
                        refine pure_ (i := 18) (N := some 206) (v := undef) (a' := ?_) #[true, true, true, true, true, true, true, true, true, true, true, true, true, true, true, true, true, true, true, false, false, false, false, false, false, false] rfl rfl (any_of HT_.out (by kernel_rfl)) (fun _ _ _ h => h) (Or.inr ⟨by rfl, rfl⟩) ?_ ?_
                        rotate_left
                        · simp only [Act.put, List.setIfInBounds_toArray, List.set_cons_zero, List.set_cons_succ, i64_w, i32_w]
                          rfl
                        refine pure_ (i := 19) (N := some 207) (v := undef) (a' := ?_) #[true, true, true, true, true, true, true, true, true, true, true, true, true, true, true, true, true, true, true, true, false, false, false, false, false, false] rfl rfl (any_of HT_.out (by kernel_rfl)) (fun _ _ _ h => h) (Or.inr ⟨by rfl, rfl⟩) ?_ ?_
                        rotate_left
                        · simp only [Act.put, List.setIfInBounds_toArray, List.set_cons_zero, List.set_cons_succ, i64_w, i32_w]
                          rfl
                        refine pure_ (i := 20) (N := some 208) (v := undef) (a' := ?_) #[true, true, true, true, true, true, true, true, true, true, true, true, true, true, true, true, true, true, true, true, true, false, false, false, false, false] rfl rfl (any_of HT_.out (by kernel_rfl)) (fun _ _ _ h => h) (Or.inr ⟨by rfl, rfl⟩) ?_ ?_
                        rotate_left
                        · simp only [Act.put, List.setIfInBounds_toArray, List.set_cons_zero, List.set_cons_succ, i64_w, i32_w]
                          rfl
                        refine pure_ (i := 21) (N := some 209) (v := undef) (a' := ?_) #[true, true, true, true, true, true, true, true, true, true, true, true, true, true, true, true, true, true, true, true, true, true, false, false, false, false] rfl rfl (any_of HT_.out (by kernel_rfl)) (fun _ _ _ h => h) (Or.inr ⟨by rfl, rfl⟩) ?_ ?_
                        rotate_left
                        · simp only [Act.put, List.setIfInBounds_toArray, List.set_cons_zero, List.set_cons_succ, i64_w, i32_w]
                          rfl
                        refine pure_ (i := 22) (N := some 210) (v := undef) (a' := ?_) #[true, true, true, true, true, true, true, true, true, true, true, true, true, true, true, true, true, true, true, true, true, true, true, false, false, false] rfl rfl (any_of HT_.out (by kernel_rfl)) (fun _ _ _ h => h) (Or.inr ⟨by rfl, rfl⟩) ?_ ?_
                        rotate_left
                        · simp only [Act.put, List.setIfInBounds_toArray, List.set_cons_zero, List.set_cons_succ, i64_w, i32_w]
                          rfl
                        refine pure_ (i := 23) (N := some 211) (v := undef) (a' := ?_) #[true, true, true, true, true, true, true, true, true, true, true, true, true, true, true, true, true, true, true, true, true, true, true, true, false, false] rfl rfl (any_of HT_.out (by kernel_rfl)) (fun _ _ _ h => h) (Or.inr ⟨by rfl, rfl⟩) ?_ ?_
                        rotate_left
                        · simp only [Act.put, List.setIfInBounds_toArray, List.set_cons_zero, List.set_cons_succ, i64_w, i32_w]
                          rfl
                        refine pure_ (i := 24) (N := some 212) (v := ?_) (a' := ?_) #[true, true, true, true, true, true, true, true, true, true, true, true, true, true, true, true, true, true, true, true, true, true, true, true, true, false] rfl rfl (any_of HT_.out (by kernel_rfl)) (fun _ _ _ h => h) (Or.inl ⟨by rfl, ?_⟩) ?_ ?_
                        rotate_left
                        · intro w'
                          go_simp
                          with_reducible rfl
                        rotate_left
                        · simp only [Act.put, List.setIfInBounds_toArray, List.set_cons_zero, List.set_cons_succ, i64_w, i32_w]
                          rfl
                        refine pure_ (i := 25) (N := some 213) (v := ?_) (a' := ?_) #[true, true, true, true, true, true, true, true, true, true, true, true, true, true, true, true, true, true, true, true, true, true, true, true, true, true] rfl rfl (any_of HT_.out (by kernel_rfl)) (fun _ _ _ h => h) (Or.inl ⟨by rfl, ?_⟩) ?_ ?_
                        rotate_left
                        · intro w'
                          go_simp
                          with_reducible rfl
                        rotate_left
                        · simp only [Act.put, List.setIfInBounds_toArray, List.set_cons_zero, List.set_cons_succ, i64_w, i32_w]
                          rfl
                        refine done_ (done_of HT_.out (by kernel_rfl)) ?_
                        try go_wp2
                        go_meet
                        case rel => exact ⟨_, (true), (by first | rfl | (simp; done) | (simp [*]; done)), H', ⟨by have := HJ7.out; have := HJ21.out; have := HJ35.out; have := HJ44.out; have := HJ60.out; have := HK6.out; first | omega | exact Nat.le_refl _⟩, ⟨by exact lB HB.out⟩⟩
                      · replace c98 := Bool.eq_false_iff.mpr c98
                        subst c98
                        have H1 : (if (wrap64 (t283 + 1)) < (t287.length : Int) then (if 0 ≤ (wrap64 (t283 + 1)) then ((laws_fLess.f t280 t281 ((rd_T31 t287 (wrap64 (t283 + 1))).f0) ((rd_T31 t287 (wrap64 (t283 + 1))).f1)).bind fun t303 => (laws_FnFractionsByAddresses.j6 k6 l0 (!t303))) else (none)) else (laws_FnFractionsByAddresses.j6 k6 l0 false)) = some r := by rw [if_neg (show ¬ (false = true) by decide)] at H; exact H
                        clear H
                        have H := H1
                        clear H1
                        by_cases c101 : (wrap64 (t283 + 1)) < (t287.length : Int)
                        · rw [if_pos c101] at H
                          have c101b0 : decide ((wrap64 (t283 + 1)) < (t287.length : Int)) = true := decide_eq_true c101
                          clear c101
                          obtain ⟨ji102, hji102⟩ : ∃ j_ : Int, (wrap64 (t283 + 1)) = j_ := ⟨_, rfl⟩
                          replace H : (if 0 ≤ (ji102) then ((laws_fLess.f t280 t281 ((rd_T31 t287 (ji102)).f0) ((rd_T31 t287 (ji102)).f1)).bind fun t303 => (laws_FnFractionsByAddresses.j6 k6 l0 (!t303))) else (none)) = some r := by first | (rw [hji102] at H; exact H) | (simp only [hji102] at H ⊢; exact H)
                          (try rw [hji102] at c101b0)
                          (try rw [hji102] at A97)
                          have hji102w : (IntKind.i64.wrap (t283 + 1)) = ji102 := (i64_w _).trans hji102
                          by_cases c103 : 0 ≤ (ji102)
                          · rw [if_pos c103] at H
                            have c103b0 : decide (0 ≤ (ji102)) = true := decide_eq_true c103
                            clear c103
                            replace H := Option.bind_eq_some_iff.mp H
                            obtain ⟨t303, A1040, H⟩ := H
                            replace H : (laws_FnFractionsByAddresses.j6 k6 l0 (!t303)) = some r := H
                            have A104 := Aside0.mk A1040
                            clear A1040
                            have H' := Aside0.mk H
                            clear H
                            try go_wp2
                            have n0_ := Aside0.mk (Kd.R_drew HO_26.out)
                            have n1_ := Aside0.mk (blk_drew BK282.out)
                            have n2_ := Aside0.mk (below_drew1 HB.out)
                            clear HO_26
                            clear BK282
                            clear HB
                            have HO_26 := n0_
                            have BK282 := n1_
                            have HB := n2_
                            clear n0_ n1_ n2_
                            have p300 : 0 ≤ (t283 : Int) := of_decide_eq_true (by first | (with_reducible assumption) | assumption)
                            have q300 : t283 < (t287.length : Int) := of_decide_eq_true (by first | (with_reducible assumption) | assumption)
                            obtain ⟨ad300, e300, hx300_0, hx300_1⟩ := at_T31 (Kd.R_reads' HO_26.out).2.2 t283 p300 q300
                            cases e300
                            replace p300 := eq_true p300
                            replace q300 := eq_true q300
                            have p302 : 0 ≤ ((ji102) : Int) := of_decide_eq_true (by first | (with_reducible assumption) | assumption)
                            have q302 : (ji102) < (t287.length : Int) := of_decide_eq_true (by first | (with_reducible assumption) | assumption)
                            obtain ⟨ad302, e302, hx302_0, hx302_1⟩ := at_T31 (Kd.R_reads' HO_26.out).2.2 (ji102) p302 q302
                            obtain rfl : ad300 = ad302 := (by injection e302)
                            replace p302 := eq_true p302
                            replace q302 := eq_true q302
                            refine start_ (n := 26) (S := fun w' => w'.cell? ⟨gb282, 0, none⟩ = some (.int .i64 t280) ∧ w'.cell? ⟨gb282, 1, none⟩ = some (.int .i64 t281) ∧ w'.cell? (ad300.add ((t283).toNat * 2)) = some (.int .i64 ((rd_T31 t287 t283).f0)) ∧ w'.cell? ⟨(ad300.add ((t283).toNat * 2)).block, (ad300.add ((t283).toNat * 2)).off + 1, none⟩ = some (.int .i64 ((rd_T31 t287 t283).f1)) ∧ w'.cell? (ad300.add (((ji102)).toNat * 2)) = some (.int .i64 ((rd_T31 t287 (ji102)).f0)) ∧ w'.cell? ⟨(ad300.add (((ji102)).toNat * 2)).block, (ad300.add (((ji102)).toNat * 2)).off + 1, none⟩ = some (.int .i64 ((rd_T31 t287 (ji102)).f1))) (ds := []) #[false, false, false, false, false, false, false, false, false, false, false, false, false, false, false, false, false, false, false, false, false, false, false, false, false, false] (by kernel_rfl) rfl rfl ⟨(blk_cell BK282.out 0).trans rfl, (blk_cell BK282.out 1).trans rfl, hx300_0, hx300_1, hx302_0, hx302_1⟩ (fun hHeld => ?_); refine with_tabW laws_FnFractionsByAddresses.tab33 laws_FnFractionsByAddresses.bits33 (fun HT_ HW_ => ?_)
                            generalize wr.drew = w105 at HO_26 BK282 HB hx300_0 hx300_1 hx302_0 hx302_1 hHeld ⊢
                            refine pure_ (i := 0) (N := some 188) (v := ?_) (a' := ?_) #[true, false, false, false, false, false, false, false, false, false, false, false, false, false, false, false, false, false, false, false, false, false, false, false, false, false] rfl rfl (any_of HT_.out (by kernel_rfl)) (fun _ _ _ h => h) (Or.inl ⟨by rfl, ?_⟩) ?_ ?_
                            rotate_left
                            · intro w'
                              go_simp
                              with_reducible rfl
                            rotate_left
                            · simp only [Act.put, List.setIfInBounds_toArray, List.set_cons_zero, List.set_cons_succ, i64_w, i32_w]
                              rfl
                            refine pure_ (i := 1) (N := some 189) (v := ?_) (a' := ?_) #[true, true, false, false, false, false, false, false, false, false, false, false, false, false, false, false, false, false, false, false, false, false, false, false, false, false] rfl rfl (any_of HT_.out (by kernel_rfl)) (fun _ _ _ h => h) (Or.inl ⟨by rfl, ?_⟩) ?_ ?_
                            rotate_left
                            · intro w'
                              go_simp
                              with_reducible rfl
                            rotate_left
                            · simp only [Act.put, List.setIfInBounds_toArray, List.set_cons_zero, List.set_cons_succ, i64_w, i32_w]
                              rfl
                            refine pure_ (i := 3) (N := some 191) (v := ?_) (a' := ?_) #[true, true, false, true, false, false, false, false, false, false, false, false, false, false, false, false, false, false, false, false, false, false, false, false, false, false] rfl rfl (any_of HT_.out (by kernel_rfl)) (fun _ _ _ h => h) (Or.inl ⟨by rfl, ?_⟩) ?_ ?_
                            rotate_left
                            · intro w'
                              go_simp
                              with_reducible rfl
                            rotate_left
                            · simp only [Act.put, List.setIfInBounds_toArray, List.set_cons_zero, List.set_cons_succ, i64_w, i32_w]
                              rfl
                            refine pure_ (i := 4) (N := some 192) (v := ?_) (a' := ?_) #[true, true, false, true, true, false, false, false, false, false, false, false, false, false, false, false, false, false, false, false, false, false, false, false, false, false] rfl rfl (any_of HT_.out (by kernel_rfl)) (fun _ _ _ h => h) (Or.inl ⟨by rfl, ?_⟩) ?_ ?_
                            rotate_left
                            · intro w'
                              go_simp
                              with_reducible rfl
                            rotate_left
                            · simp only [Act.put, List.setIfInBounds_toArray, List.set_cons_zero, List.set_cons_succ, i64_w, i32_w]
                              rfl
                            refine pure_ (i := 5) (N := some 193) (v := ?_) (a' := ?_) #[true, true, false, true, true, true, false, false, false, false, false, false, false, false, false, false, false, false, false, false, false, false, false, false, false, false] rfl rfl (any_of HT_.out (by kernel_rfl)) (fun _ _ _ h => h) (Or.inl ⟨by rfl, ?_⟩) ?_ ?_
                            rotate_left
                            · intro w'
                              go_simp
                              with_reducible rfl
                            rotate_left
                            · simp only [Act.put, List.setIfInBounds_toArray, List.set_cons_zero, List.set_cons_succ, i64_w, i32_w]
                              rfl
                            refine take_ (i := 2) (N := some 190) (v := ?_) (a' := ?_) #[true, true, true, true, true, true, false, false, false, false, false, false, false, false, false, false, false, false, false, false, false, false, false, false, false, false] rfl rfl (take_ofW HT_.out HW_.out (by kernel_rfl)) (fun _ _ _ h => h) (Or.inl ⟨by rfl, ?_⟩) hHeld ?_ ?_
                            rotate_left
                            · rintro w' ⟨s0, s1, s2, s3, s4, s5⟩
                              go_simp
                              with_reducible rfl
                            rotate_left
                            · simp only [Act.put, List.setIfInBounds_toArray, List.set_cons_zero, List.set_cons_succ, i64_w, i32_w]
                              rfl
                            refine take_ (i := 6) (N := some 194) (v := ?_) (a' := ?_) #[true, true, true, true, true, true, true, false, false, false, false, false, false, false, false, false, false, false, false, false, false, false, false, false, false, false] rfl rfl (take_ofW HT_.out HW_.out (by kernel_rfl)) (fun _ _ _ h => h) (Or.inl ⟨by rfl, ?_⟩) hHeld ?_ ?_
                            rotate_left
                            · rintro w' ⟨s0, s1, s2, s3, s4, s5⟩
                              go_simp
                              with_reducible rfl
                            rotate_left
                            · simp only [Act.put, List.setIfInBounds_toArray, List.set_cons_zero, List.set_cons_succ, i64_w, i32_w]
                              rfl
                            refine one_ (i := 7) (N := some 195) #[true, true, true, true, true, true, true, true, false, false, false, false, false, false, false, false, false, false, false, false, false, false, false, false, false, false] rfl rfl (one_of HT_.out (by kernel_rfl)) (by decide) (fun K hK => ?_)
                            refine goes_ Tryd.func32 (by kernel_rfl) rfl #[.agg #[.int .i64 t280, .int .i64 t281], .agg #[.int .i64 ((rd_T31 t287 t283).f0), .int .i64 ((rd_T31 t287 t283).f1)]] (by rfl) rfl rfl lm ?_
                            with_reducible refine (laws_fLess.calls t280 t281 ((rd_T31 t287 t283).f0) ((rd_T31 t287 t283).f1) false _ A97.out).mono ?_
                            rintro e w106 ⟨rfl, hb⟩
                            have HS2_ := (hb.cell (World.block_lt_of_cell? _ _ (hHeld.2.2.1))).trans (hHeld.2.2.1)
                            have HS3_ := (hb.cell (World.block_lt_of_cell? _ _ (hHeld.2.2.2.1))).trans (hHeld.2.2.2.1)
                            have HS4_ := (hb.cell (World.block_lt_of_cell? _ _ (hHeld.2.2.2.2.1))).trans (hHeld.2.2.2.2.1)
                            have HS5_ := (hb.cell (World.block_lt_of_cell? _ _ (hHeld.2.2.2.2.2))).trans (hHeld.2.2.2.2.2)
                            refine ⟨_, rfl, ?_⟩
                            have n0_ := Aside0.mk (Kd.R_below (by (with_reducible repeat (first | apply Kd.R_alloc | apply Kd.R_drewN | apply Kd.R_drew)); exact HO_26.out) hb)
                            have n1_ := Aside0.mk (blk_below (lb BK282.out) hb)
                            have n2_ := Aside0.mk (below_step (lB HB.out) hb)
                            clear HO_26
                            clear BK282
                            clear HB
                            have HO_26 := n0_
                            have BK282 := n1_
                            have HB := n2_
                            clear n0_ n1_ n2_
                            (try clear hb)
                            refine hK.out _ _ ⟨(blk_cell BK282.out 0).trans rfl, (blk_cell BK282.out 1).trans rfl, HS2_, HS3_, HS4_, HS5_⟩ (fun hHeld => ?_)
                            clear hK K
                            refine norm_ (a' := ?_) ?_ ?_
                            rotate_left
                            · show Act.put _ (some 195) _ = _
                              simp only [Act.put, List.setIfInBounds_toArray, List.set_cons_zero, List.set_cons_succ, i64_w, i32_w]
                              rfl
                            refine pure_ (i := 8) (N := some 196) (v := ?_) (a' := ?_) #[true, true, true, true, true, true, true, true, true, false, false, false, false, false, false, false, false, false, false, false, false, false, false, false, false, false] rfl rfl (any_of HT_.out (by kernel_rfl)) (fun _ _ _ h => h) (Or.inl ⟨by rfl, ?_⟩) ?_ ?_
                            rotate_left
                            · intro w'
                              go_simp
                              with_reducible rfl
                            rotate_left
                            · simp only [Act.put, List.setIfInBounds_toArray, List.set_cons_zero, List.set_cons_succ, i64_w, i32_w]
                              rfl
                            refine pure_ (i := 9) (N := some 197) (v := ?_) (a' := ?_) #[true, true, true, true, true, true, true, true, true, true, false, false, false, false, false, false, false, false, false, false, false, false, false, false, false, false] rfl rfl (any_of HT_.out (by kernel_rfl)) (fun _ _ _ h => h) (Or.inl ⟨by rfl, ?_⟩) ?_ ?_
                            rotate_left
                            · intro w'
                              go_simp
                              with_reducible rfl
                            rotate_left
                            · simp only [Act.put, List.setIfInBounds_toArray, List.set_cons_zero, List.set_cons_succ, i64_w, i32_w]
                              rfl
                            refine pure_ (i := 10) (N := some 198) (v := ?_) (a' := ?_) #[true, true, true, true, true, true, true, true, true, true, true, false, false, false, false, false, false, false, false, false, false, false, false, false, false, false] rfl rfl (any_of HT_.out (by kernel_rfl)) (fun _ _ _ h => h) (Or.inl ⟨by rfl, ?_⟩) ?_ ?_
                            rotate_left
                            · intro w'
                              go_simp
                              with_reducible rfl
                            rotate_left
                            · simp only [Act.put, List.setIfInBounds_toArray, List.set_cons_zero, List.set_cons_succ, i64_w, i32_w]
                              rfl
                            refine pure_ (i := 11) (N := some 199) (v := ?_) (a' := ?_) #[true, true, true, true, true, true, true, true, true, true, true, true, false, false, false, false, false, false, false, false, false, false, false, false, false, false] rfl rfl (any_of HT_.out (by kernel_rfl)) (fun _ _ _ h => h) (Or.inl ⟨by rfl, ?_⟩) ?_ ?_
                            rotate_left
                            · intro w'
                              go_simp
                              with_reducible rfl
                            rotate_left
                            · simp only [Act.put, List.setIfInBounds_toArray, List.set_cons_zero, List.set_cons_succ, i64_w, i32_w]
                              rfl
                            refine pure_ (i := 12) (N := some 200) (v := ?_) (a' := ?_) #[true, true, true, true, true, true, true, true, true, true, true, true, true, false, false, false, false, false, false, false, false, false, false, false, false, false] rfl rfl (any_of HT_.out (by kernel_rfl)) (fun _ _ _ h => h) (Or.inl ⟨by rfl, ?_⟩) ?_ ?_
                            rotate_left
                            · intro w'
                              go_simp
                              with_reducible rfl
                            rotate_left
                            · simp only [Act.put, List.setIfInBounds_toArray, List.set_cons_zero, List.set_cons_succ, i64_w, i32_w]
                              rfl
                            refine pure_ (i := 13) (N := some 201) (v := ?_) (a' := ?_) #[true, true, true, true, true, true, true, true, true, true, true, true, true, true, false, false, false, false, false, false, false, false, false, false, false, false] rfl rfl (any_of HT_.out (by kernel_rfl)) (fun _ _ _ h => h) (Or.inl ⟨by rfl, ?_⟩) ?_ ?_
                            rotate_left
                            · intro w'
                              go_simp
                              with_reducible rfl
                            rotate_left
                            · simp only [Act.put, List.setIfInBounds_toArray, List.set_cons_zero, List.set_cons_succ, i64_w, i32_w]
                              rfl
                            refine pure_ (i := 14) (N := some 202) (v := ?_) (a' := ?_) #[true, true, true, true, true, true, true, true, true, true, true, true, true, true, true, false, false, false, false, false, false, false, false, false, false, false] rfl rfl (any_of HT_.out (by kernel_rfl)) (fun _ _ _ h => h) (Or.inl ⟨by rfl, ?_⟩) ?_ ?_
                            rotate_left
                            · intro w'
                              go_simp
                              with_reducible rfl
                            rotate_left
                            · simp only [Act.put, List.setIfInBounds_toArray, List.set_cons_zero, List.set_cons_succ, i64_w, i32_w]
                              rfl
                            refine pure_ (i := 16) (N := some 204) (v := ?_) (a' := ?_) #[true, true, true, true, true, true, true, true, true, true, true, true, true, true, true, false, true, false, false, false, false, false, false, false, false, false] rfl rfl (any_of HT_.out (by kernel_rfl)) (fun _ _ _ h => h) (Or.inl ⟨by rfl, ?_⟩) ?_ ?_
                            rotate_left
                            · intro w'
                              go_simp
                              with_reducible rfl
                            rotate_left
                            · simp only [Act.put, List.setIfInBounds_toArray, List.set_cons_zero, List.set_cons_succ, i64_w, i32_w]
                              rfl
                            refine pure_ (i := 17) (N := some 205) (v := ?_) (a' := ?_) #[true, true, true, true, true, true, true, true, true, true, true, true, true, true, true, false, true, true, false, false, false, false, false, false, false, false] rfl rfl (any_of HT_.out (by kernel_rfl)) (fun _ _ _ h => h) (Or.inl ⟨by rfl, ?_⟩) ?_ ?_
                            rotate_left
                            · intro w'
                              go_simp
                              with_reducible rfl
                            rotate_left
                            · simp only [Act.put, List.setIfInBounds_toArray, List.set_cons_zero, List.set_cons_succ, i64_w, i32_w]
                              rfl
                            refine pure_ (i := 18) (N := some 206) (v := ?_) (a' := ?_) #[true, true, true, true, true, true, true, true, true, true, true, true, true, true, true, false, true, true, true, false, false, false, false, false, false, false] rfl rfl (any_of HT_.out (by kernel_rfl)) (fun _ _ _ h => h) (Or.inl ⟨by rfl, ?_⟩) ?_ ?_
                            rotate_left
                            · intro w'
                              go_simp
                              with_reducible rfl
                            rotate_left
                            · simp only [Act.put, List.setIfInBounds_toArray, List.set_cons_zero, List.set_cons_succ, i64_w, i32_w]
                              rfl
                            refine pure_ (i := 19) (N := some 207) (v := ?_) (a' := ?_) #[true, true, true, true, true, true, true, true, true, true, true, true, true, true, true, false, true, true, true, true, false, false, false, false, false, false] rfl rfl (any_of HT_.out (by kernel_rfl)) (fun _ _ _ h => h) (Or.inl ⟨by rfl, ?_⟩) ?_ ?_
                            rotate_left
                            · intro w'
                              go_simp
                              with_reducible rfl
                            rotate_left
                            · simp only [Act.put, List.setIfInBounds_toArray, List.set_cons_zero, List.set_cons_succ, i64_w, i32_w]
                              rfl
                            refine take_ (i := 15) (N := some 203) (v := ?_) (a' := ?_) #[true, true, true, true, true, true, true, true, true, true, true, true, true, true, true, true, true, true, true, true, false, false, false, false, false, false] rfl rfl (take_ofW HT_.out HW_.out (by kernel_rfl)) (fun _ _ _ h => h) (Or.inl ⟨by rfl, ?_⟩) hHeld ?_ ?_
                            rotate_left
                            · rintro w' ⟨s0, s1, s2, s3, s4, s5⟩
                              go_simp
                              with_reducible rfl
                            rotate_left
                            · simp only [Act.put, List.setIfInBounds_toArray, List.set_cons_zero, List.set_cons_succ, i64_w, i32_w]
                              rfl
                            refine take_ (i := 20) (N := some 208) (v := ?_) (a' := ?_) #[true, true, true, true, true, true, true, true, true, true, true, true, true, true, true, true, true, true, true, true, true, false, false, false, false, false] rfl rfl (take_ofW HT_.out HW_.out (by kernel_rfl)) (fun _ _ _ h => h) (Or.inl ⟨by rfl, ?_⟩) hHeld ?_ ?_
                            rotate_left
                            · rintro w' ⟨s0, s1, s2, s3, s4, s5⟩
                              go_simp
                              with_reducible rfl
                            rotate_left
                            · simp only [Act.put, List.setIfInBounds_toArray, List.set_cons_zero, List.set_cons_succ, i64_w, i32_w]
                              rfl
                            refine one_ (i := 21) (N := some 209) #[true, true, true, true, true, true, true, true, true, true, true, true, true, true, true, true, true, true, true, true, true, true, false, false, false, false] rfl rfl (one_of HT_.out (by kernel_rfl)) (by decide) (fun K hK => ?_)
                            refine goes_ Tryd.func32 (by kernel_rfl) rfl #[.agg #[.int .i64 t280, .int .i64 t281], .agg #[.int .i64 ((rd_T31 t287 (ji102)).f0), .int .i64 ((rd_T31 t287 (ji102)).f1)]] (by rfl) rfl rfl (by (try simp only [List.map_toArray, List.map_cons, List.map_nil]); first | done | (simp only [hji102]; rfl) | rfl | (simp only [List.length_drop, List.length_take]; rfl)) ?_
                            with_reducible refine (laws_fLess.calls t280 t281 ((rd_T31 t287 (ji102)).f0) ((rd_T31 t287 (ji102)).f1) t303 _ A104.out).mono ?_
                            rintro e w107 ⟨rfl, hb⟩
                            have HS2_ := (hb.cell (World.block_lt_of_cell? _ _ (hHeld.2.2.1))).trans (hHeld.2.2.1)
                            have HS3_ := (hb.cell (World.block_lt_of_cell? _ _ (hHeld.2.2.2.1))).trans (hHeld.2.2.2.1)
                            have HS4_ := (hb.cell (World.block_lt_of_cell? _ _ (hHeld.2.2.2.2.1))).trans (hHeld.2.2.2.2.1)
                            have HS5_ := (hb.cell (World.block_lt_of_cell? _ _ (hHeld.2.2.2.2.2))).trans (hHeld.2.2.2.2.2)
                            refine ⟨_, rfl, ?_⟩
                            have n0_ := Aside0.mk (Kd.R_below (by (with_reducible repeat (first | apply Kd.R_alloc | apply Kd.R_drewN | apply Kd.R_drew)); exact HO_26.out) hb)
                            have n1_ := Aside0.mk (blk_below (lb BK282.out) hb)
                            have n2_ := Aside0.mk (below_step (lB HB.out) hb)
                            clear HO_26
                            clear BK282
                            clear HB
                            have HO_26 := n0_
                            have BK282 := n1_
                            have HB := n2_
                            clear n0_ n1_ n2_
                            (try clear hb)
                            refine hK.out _ _ ⟨(blk_cell BK282.out 0).trans rfl, (blk_cell BK282.out 1).trans rfl, HS2_, HS3_, HS4_, HS5_⟩ (fun hHeld => ?_)
                            clear hK K
                            refine norm_ (a' := ?_) ?_ ?_
                            rotate_left
                            · show Act.put _ (some 209) _ = _
                              simp only [Act.put, List.setIfInBounds_toArray, List.set_cons_zero, List.set_cons_succ, i64_w, i32_w]
                              rfl
                            refine pure_ (i := 22) (N := some 210) (v := ?_) (a' := ?_) #[true, true, true, true, true, true, true, true, true, true, true, true, true, true, true, true, true, true, true, true, true, true, true, false, false, false] rfl rfl (any_of HT_.out (by kernel_rfl)) (fun _ _ _ h => h) (Or.inl ⟨by rfl, ?_⟩) ?_ ?_
                            rotate_left
                            · intro w'
                              go_simp
                              with_reducible rfl
                            rotate_left
                            · simp only [Act.put, List.setIfInBounds_toArray, List.set_cons_zero, List.set_cons_succ, i64_w, i32_w]
                              rfl
                            refine pure_ (i := 23) (N := some 211) (v := ?_) (a' := ?_) #[true, true, true, true, true, true, true, true, true, true, true, true, true, true, true, true, true, true, true, true, true, true, true, true, false, false] rfl rfl (any_of HT_.out (by kernel_rfl)) (fun _ _ _ h => h) (Or.inl ⟨by rfl, ?_⟩) ?_ ?_
                            rotate_left
                            · intro w'
                              go_simp
                              with_reducible rfl
                            rotate_left
                            · simp only [Act.put, List.setIfInBounds_toArray, List.set_cons_zero, List.set_cons_succ, i64_w, i32_w]
                              rfl
                            refine pure_ (i := 24) (N := some 212) (v := ?_) (a' := ?_) #[true, true, true, true, true, true, true, true, true, true, true, true, true, true, true, true, true, true, true, true, true, true, true, true, true, false] rfl rfl (any_of HT_.out (by kernel_rfl)) (fun _ _ _ h => h) (Or.inl ⟨by rfl, ?_⟩) ?_ ?_
                            rotate_left
                            · intro w'
                              go_simp
                              with_reducible rfl
                            rotate_left
                            · simp only [Act.put, List.setIfInBounds_toArray, List.set_cons_zero, List.set_cons_succ, i64_w, i32_w]
                              rfl
                            refine pure_ (i := 25) (N := some 213) (v := ?_) (a' := ?_) #[true, true, true, true, true, true, true, true, true, true, true, true, true, true, true, true, true, true, true, true, true, true, true, true, true, true] rfl rfl (any_of HT_.out (by kernel_rfl)) (fun _ _ _ h => h) (Or.inl ⟨by rfl, ?_⟩) ?_ ?_
                            rotate_left
                            · intro w'
                              go_simp
                              with_reducible rfl
                            rotate_left
                            · simp only [Act.put, List.setIfInBounds_toArray, List.set_cons_zero, List.set_cons_succ, i64_w, i32_w]
                              rfl
                            refine done_ (done_of HT_.out (by kernel_rfl)) ?_
                            try go_wp2
                            go_meet
                            case rel => exact ⟨_, (!t303), (by first | rfl | (simp; done) | (simp [*]; done)), H', ⟨by have := HJ7.out; have := HJ21.out; have := HJ35.out; have := HJ44.out; have := HJ60.out; have := HK6.out; first | omega | exact Nat.le_refl _⟩, ⟨by exact lB HB.out⟩⟩
                          · rw [if_neg c103] at H
                            exact absurd H (by simp)
                        · rw [if_neg c101] at H
                          have c101b0 : decide ((wrap64 (t283 + 1)) < (t287.length : Int)) = false := decide_eq_false c101
                          clear c101
                          have H' := Aside0.mk H
                          clear H
                          try go_wp2
                          have n0_ := Aside0.mk (Kd.R_drew HO_26.out)
                          have n1_ := Aside0.mk (blk_drew BK282.out)
                          have n2_ := Aside0.mk (below_drew1 HB.out)
                          clear HO_26
                          clear BK282
                          clear HB
                          have HO_26 := n0_
                          have BK282 := n1_
                          have HB := n2_
                          clear n0_ n1_ n2_
                          have p300 : 0 ≤ (t283 : Int) := of_decide_eq_true (by first | (with_reducible assumption) | assumption)
                          have q300 : t283 < (t287.length : Int) := of_decide_eq_true (by first | (with_reducible assumption) | assumption)
                          obtain ⟨ad300, e300, hx300_0, hx300_1⟩ := at_T31 (Kd.R_reads' HO_26.out).2.2 t283 p300 q300
                          cases e300
                          replace p300 := eq_true p300
                          replace q300 := eq_true q300
                          refine start_ (n := 26) (S := fun w' => w'.cell? ⟨gb282, 0, none⟩ = some (.int .i64 t280) ∧ w'.cell? ⟨gb282, 1, none⟩ = some (.int .i64 t281) ∧ w'.cell? (ad300.add ((t283).toNat * 2)) = some (.int .i64 ((rd_T31 t287 t283).f0)) ∧ w'.cell? ⟨(ad300.add ((t283).toNat * 2)).block, (ad300.add ((t283).toNat * 2)).off + 1, none⟩ = some (.int .i64 ((rd_T31 t287 t283).f1))) (ds := []) #[false, false, false, false, false, false, false, false, false, false, false, false, false, false, false, false, false, false, false, false, false, false, false, false, false, false] (by kernel_rfl) rfl rfl ⟨(blk_cell BK282.out 0).trans rfl, (blk_cell BK282.out 1).trans rfl, hx300_0, hx300_1⟩ (fun hHeld => ?_); refine with_tabW laws_FnFractionsByAddresses.tab33 laws_FnFractionsByAddresses.bits33 (fun HT_ HW_ => ?_)
                          generalize wr.drew = w108 at HO_26 BK282 HB hx300_0 hx300_1 hHeld ⊢
                          refine pure_ (i := 0) (N := some 188) (v := ?_) (a' := ?_) #[true, false, false, false, false, false, false, false, false, false, false, false, false, false, false, false, false, false, false, false, false, false, false, false, false, false] rfl rfl (any_of HT_.out (by kernel_rfl)) (fun _ _ _ h => h) (Or.inl ⟨by rfl, ?_⟩) ?_ ?_
                          rotate_left
                          · intro w'
                            go_simp
                            with_reducible rfl
                          rotate_left
                          · simp only [Act.put, List.setIfInBounds_toArray, List.set_cons_zero, List.set_cons_succ, i64_w, i32_w]
                            rfl
                          refine pure_ (i := 1) (N := some 189) (v := ?_) (a' := ?_) #[true, true, false, false, false, false, false, false, false, false, false, false, false, false, false, false, false, false, false, false, false, false, false, false, false, false] rfl rfl (any_of HT_.out (by kernel_rfl)) (fun _ _ _ h => h) (Or.inl ⟨by rfl, ?_⟩) ?_ ?_
                          rotate_left
                          · intro w'
                            go_simp
                            with_reducible rfl
                          rotate_left
                          · simp only [Act.put, List.setIfInBounds_toArray, List.set_cons_zero, List.set_cons_succ, i64_w, i32_w]
                            rfl
                          refine pure_ (i := 3) (N := some 191) (v := ?_) (a' := ?_) #[true, true, false, true, false, false, false, false, false, false, false, false, false, false, false, false, false, false, false, false, false, false, false, false, false, false] rfl rfl (any_of HT_.out (by kernel_rfl)) (fun _ _ _ h => h) (Or.inl ⟨by rfl, ?_⟩) ?_ ?_
                          rotate_left
                          · intro w'
                            go_simp
                            with_reducible rfl
                          rotate_left
                          · simp only [Act.put, List.setIfInBounds_toArray, List.set_cons_zero, List.set_cons_succ, i64_w, i32_w]
                            rfl
                          refine pure_ (i := 4) (N := some 192) (v := ?_) (a' := ?_) #[true, true, false, true, true, false, false, false, false, false, false, false, false, false, false, false, false, false, false, false, false, false, false, false, false, false] rfl rfl (any_of HT_.out (by kernel_rfl)) (fun _ _ _ h => h) (Or.inl ⟨by rfl, ?_⟩) ?_ ?_
                          rotate_left
                          · intro w'
                            go_simp
                            with_reducible rfl
                          rotate_left
                          · simp only [Act.put, List.setIfInBounds_toArray, List.set_cons_zero, List.set_cons_succ, i64_w, i32_w]
                            rfl
                          refine pure_ (i := 5) (N := some 193) (v := ?_) (a' := ?_) #[true, true, false, true, true, true, false, false, false, false, false, false, false, false, false, false, false, false, false, false, false, false, false, false, false, false] rfl rfl (any_of HT_.out (by kernel_rfl)) (fun _ _ _ h => h) (Or.inl ⟨by rfl, ?_⟩) ?_ ?_
                          rotate_left
                          · intro w'
                            go_simp
                            with_reducible rfl
                          rotate_left
                          · simp only [Act.put, List.setIfInBounds_toArray, List.set_cons_zero, List.set_cons_succ, i64_w, i32_w]
                            rfl
                          refine take_ (i := 2) (N := some 190) (v := ?_) (a' := ?_) #[true, true, true, true, true, true, false, false, false, false, false, false, false, false, false, false, false, false, false, false, false, false, false, false, false, false] rfl rfl (take_ofW HT_.out HW_.out (by kernel_rfl)) (fun _ _ _ h => h) (Or.inl ⟨by rfl, ?_⟩) hHeld ?_ ?_
                          rotate_left
                          · rintro w' ⟨s0, s1, s2, s3⟩
                            go_simp
                            with_reducible rfl
                          rotate_left
                          · simp only [Act.put, List.setIfInBounds_toArray, List.set_cons_zero, List.set_cons_succ, i64_w, i32_w]
                            rfl
                          refine take_ (i := 6) (N := some 194) (v := ?_) (a' := ?_) #[true, true, true, true, true, true, true, false, false, false, false, false, false, false, false, false, false, false, false, false, false, false, false, false, false, false] rfl rfl (take_ofW HT_.out HW_.out (by kernel_rfl)) (fun _ _ _ h => h) (Or.inl ⟨by rfl, ?_⟩) hHeld ?_ ?_
                          rotate_left
                          · rintro w' ⟨s0, s1, s2, s3⟩
                            go_simp
                            with_reducible rfl
                          rotate_left
                          · simp only [Act.put, List.setIfInBounds_toArray, List.set_cons_zero, List.set_cons_succ, i64_w, i32_w]
                            rfl
                          refine one_ (i := 7) (N := some 195) #[true, true, true, true, true, true, true, true, false, false, false, false, false, false, false, false, false, false, false, false, false, false, false, false, false, false] rfl rfl (one_of HT_.out (by kernel_rfl)) (by decide) (fun K hK => ?_)
                          refine goes_ Tryd.func32 (by kernel_rfl) rfl #[.agg #[.int .i64 t280, .int .i64 t281], .agg #[.int .i64 ((rd_T31 t287 t283).f0), .int .i64 ((rd_T31 t287 t283).f1)]] (by rfl) rfl rfl lm ?_
                          with_reducible refine (laws_fLess.calls t280 t281 ((rd_T31 t287 t283).f0) ((rd_T31 t287 t283).f1) false _ A97.out).mono ?_
                          rintro e w109 ⟨rfl, hb⟩
                          have HS2_ := (hb.cell (World.block_lt_of_cell? _ _ (hHeld.2.2.1))).trans (hHeld.2.2.1)
                          have HS3_ := (hb.cell (World.block_lt_of_cell? _ _ (hHeld.2.2.2))).trans (hHeld.2.2.2)
                          refine ⟨_, rfl, ?_⟩
                          have n0_ := Aside0.mk (Kd.R_below (by (with_reducible repeat (first | apply Kd.R_alloc | apply Kd.R_drewN | apply Kd.R_drew)); exact HO_26.out) hb)
                          have n1_ := Aside0.mk (blk_below (lb BK282.out) hb)
                          have n2_ := Aside0.mk (below_step (lB HB.out) hb)
                          clear HO_26
                          clear BK282
                          clear HB
                          have HO_26 := n0_
                          have BK282 := n1_
                          have HB := n2_
                          clear n0_ n1_ n2_
                          (try clear hb)
                          refine hK.out _ _ ⟨(blk_cell BK282.out 0).trans rfl, (blk_cell BK282.out 1).trans rfl, HS2_, HS3_⟩ (fun hHeld => ?_)
                          clear hK K
                          refine norm_ (a' := ?_) ?_ ?_
                          rotate_left
                          · show Act.put _ (some 195) _ = _
                            simp only [Act.put, List.setIfInBounds_toArray, List.set_cons_zero, List.set_cons_succ, i64_w, i32_w]
                            rfl
                          refine pure_ (i := 8) (N := some 196) (v := ?_) (a' := ?_) #[true, true, true, true, true, true, true, true, true, false, false, false, false, false, false, false, false, false, false, false, false, false, false, false, false, false] rfl rfl (any_of HT_.out (by kernel_rfl)) (fun _ _ _ h => h) (Or.inl ⟨by rfl, ?_⟩) ?_ ?_
                          rotate_left
                          · intro w'
                            go_simp
                            with_reducible rfl
                          rotate_left
                          · simp only [Act.put, List.setIfInBounds_toArray, List.set_cons_zero, List.set_cons_succ, i64_w, i32_w]
                            rfl
                          refine pure_ (i := 9) (N := some 197) (v := ?_) (a' := ?_) #[true, true, true, true, true, true, true, true, true, true, false, false, false, false, false, false, false, false, false, false, false, false, false, false, false, false] rfl rfl (any_of HT_.out (by kernel_rfl)) (fun _ _ _ h => h) (Or.inl ⟨by rfl, ?_⟩) ?_ ?_
                          rotate_left
                          · intro w'
                            go_simp
                            with_reducible rfl
                          rotate_left
                          · simp only [Act.put, List.setIfInBounds_toArray, List.set_cons_zero, List.set_cons_succ, i64_w, i32_w]
                            rfl
                          refine pure_ (i := 10) (N := some 198) (v := ?_) (a' := ?_) #[true, true, true, true, true, true, true, true, true, true, true, false, false, false, false, false, false, false, false, false, false, false, false, false, false, false] rfl rfl (any_of HT_.out (by kernel_rfl)) (fun _ _ _ h => h) (Or.inl ⟨by rfl, ?_⟩) ?_ ?_
                          rotate_left
                          · intro w'
                            go_simp
                            with_reducible rfl
                          rotate_left
                          · simp only [Act.put, List.setIfInBounds_toArray, List.set_cons_zero, List.set_cons_succ, i64_w, i32_w]
                            rfl
                          refine pure_ (i := 11) (N := some 199) (v := ?_) (a' := ?_) #[true, true, true, true, true, true, true, true, true, true, true, true, false, false, false, false, false, false, false, false, false, false, false, false, false, false] rfl rfl (any_of HT_.out (by kernel_rfl)) (fun _ _ _ h => h) (Or.inl ⟨by rfl, ?_⟩) ?_ ?_
                          rotate_left
                          · intro w'
                            go_simp
                            with_reducible rfl
                          rotate_left
                          · simp only [Act.put, List.setIfInBounds_toArray, List.set_cons_zero, List.set_cons_succ, i64_w, i32_w]
                            rfl
                          refine pure_ (i := 12) (N := some 200) (v := ?_) (a' := ?_) #[true, true, true, true, true, true, true, true, true, true, true, true, true, false, false, false, false, false, false, false, false, false, false, false, false, false] rfl rfl (any_of HT_.out (by kernel_rfl)) (fun _ _ _ h => h) (Or.inl ⟨by rfl, ?_⟩) ?_ ?_
                          rotate_left
                          · intro w'
                            go_simp
                            with_reducible rfl
                          rotate_left
                          · simp only [Act.put, List.setIfInBounds_toArray, List.set_cons_zero, List.set_cons_succ, i64_w, i32_w]
                            rfl
                          refine pure_ (i := 13) (N := some 201) (v := ?_) (a' := ?_) #[true, true, true, true, true, true, true, true, true, true, true, true, true, true, false, false, false, false, false, false, false, false, false, false, false, false] rfl rfl (any_of HT_.out (by kernel_rfl)) (fun _ _ _ h => h) (Or.inl ⟨by rfl, ?_⟩) ?_ ?_
                          rotate_left
                          · intro w'
                            go_simp
                            with_reducible rfl
                          rotate_left
                          · simp only [Act.put, List.setIfInBounds_toArray, List.set_cons_zero, List.set_cons_succ, i64_w, i32_w]
                            rfl
                          refine pure_ (i := 14) (N := some 202) (v := ?_) (a' := ?_) #[true, true, true, true, true, true, true, true, true, true, true, true, true, true, true, false, false, false, false, false, false, false, false, false, false, false] rfl rfl (any_of HT_.out (by kernel_rfl)) (fun _ _ _ h => h) (Or.inl ⟨by rfl, ?_⟩) ?_ ?_
                          rotate_left
                          · intro w'
                            go_simp
                            with_reducible rfl
                          rotate_left
                          · simp only [Act.put, List.setIfInBounds_toArray, List.set_cons_zero, List.set_cons_succ, i64_w, i32_w]
                            rfl
                          refine pure_ (i := 15) (N := some 203) (v := undef) (a' := ?_) #[true, true, true, true, true, true, true, true, true, true, true, true, true, true, true, true, false, false, false, false, false, false, false, false, false, false] rfl rfl (any_of HT_.out (by kernel_rfl)) (fun _ _ _ h => h) (Or.inr ⟨by rfl, rfl⟩) ?_ ?_
                          rotate_left
                          · simp only [Act.put, List.setIfInBounds_toArray, List.set_cons_zero, List.set_cons_succ, i64_w, i32_w]
                            rfl
                          refine pure_ (i := 16) (N := some 204) (v := undef) (a' := ?_) #[true, true, true, true, true, true, true, true, true, true, true, true, true, true, true, true, true, false, false, false, false, false, false, false, false, false] rfl rfl (any_of HT_.out (by kernel_rfl)) (fun _ _ _ h => h) (Or.inr ⟨by rfl, rfl⟩) ?_ ?_
                          rotate_left
                          · simp only [Act.put, List.setIfInBounds_toArray, List.set_cons_zero, List.set_cons_succ, i64_w, i32_w]
                            rfl
                          refine pure_ (i := 17) (N := some 205) (v := undef) (a' := ?_) #[true, true, true, true, true, true, true, true, true, true, true, true, true, true, true, true, true, true, false, false, false, false, false, false, false, false] rfl rfl (any_of HT_.out (by kernel_rfl)) (fun _ _ _ h => h) (Or.inr ⟨by rfl, rfl⟩) ?_ ?_
                          rotate_left
                          · simp only [Act.put, List.setIfInBounds_toArray, List.set_cons_zero, List.set_cons_succ, i64_w, i32_w]
                            rfl
                          refine pure_ (i := 18) (N := some 206) (v := undef) (a' := ?_) #[true, true, true, true, true, true, true, true, true, true, true, true, true, true, true, true, true, true, true, false, false, false, false, false, false, false] rfl rfl (any_of HT_.out (by kernel_rfl)) (fun _ _ _ h => h) (Or.inr ⟨by rfl, rfl⟩) ?_ ?_
                          rotate_left
                          · simp only [Act.put, List.setIfInBounds_toArray, List.set_cons_zero, List.set_cons_succ, i64_w, i32_w]
                            rfl
                          refine pure_ (i := 19) (N := some 207) (v := undef) (a' := ?_) #[true, true, true, true, true, true, true, true, true, true, true, true, true, true, true, true, true, true, true, true, false, false, false, false, false, false] rfl rfl (any_of HT_.out (by kernel_rfl)) (fun _ _ _ h => h) (Or.inr ⟨by rfl, rfl⟩) ?_ ?_
                          rotate_left
                          · simp only [Act.put, List.setIfInBounds_toArray, List.set_cons_zero, List.set_cons_succ, i64_w, i32_w]
                            rfl
                          refine pure_ (i := 20) (N := some 208) (v := undef) (a' := ?_) #[true, true, true, true, true, true, true, true, true, true, true, true, true, true, true, true, true, true, true, true, true, false, false, false, false, false] rfl rfl (any_of HT_.out (by kernel_rfl)) (fun _ _ _ h => h) (Or.inr ⟨by rfl, rfl⟩) ?_ ?_
                          rotate_left
                          · simp only [Act.put, List.setIfInBounds_toArray, List.set_cons_zero, List.set_cons_succ, i64_w, i32_w]
                            rfl
                          refine pure_ (i := 21) (N := some 209) (v := undef) (a' := ?_) #[true, true, true, true, true, true, true, true, true, true, true, true, true, true, true, true, true, true, true, true, true, true, false, false, false, false] rfl rfl (any_of HT_.out (by kernel_rfl)) (fun _ _ _ h => h) (Or.inr ⟨by rfl, rfl⟩) ?_ ?_
                          rotate_left
                          · simp only [Act.put, List.setIfInBounds_toArray, List.set_cons_zero, List.set_cons_succ, i64_w, i32_w]
                            rfl
                          refine pure_ (i := 22) (N := some 210) (v := undef) (a' := ?_) #[true, true, true, true, true, true, true, true, true, true, true, true, true, true, true, true, true, true, true, true, true, true, true, false, false, false] rfl rfl (any_of HT_.out (by kernel_rfl)) (fun _ _ _ h => h) (Or.inr ⟨by rfl, rfl⟩) ?_ ?_
                          rotate_left
                          · simp only [Act.put, List.setIfInBounds_toArray, List.set_cons_zero, List.set_cons_succ, i64_w, i32_w]
                            rfl
                          refine pure_ (i := 23) (N := some 211) (v := ?_) (a' := ?_) #[true, true, true, true, true, true, true, true, true, true, true, true, true, true, true, true, true, true, true, true, true, true, true, true, false, false] rfl rfl (any_of HT_.out (by kernel_rfl)) (fun _ _ _ h => h) (Or.inl ⟨by rfl, ?_⟩) ?_ ?_
                          rotate_left
                          · intro w'
                            go_simp
                            with_reducible rfl
                          rotate_left
                          · simp only [Act.put, List.setIfInBounds_toArray, List.set_cons_zero, List.set_cons_succ, i64_w, i32_w]
                            rfl
                          refine pure_ (i := 24) (N := some 212) (v := ?_) (a' := ?_) #[true, true, true, true, true, true, true, true, true, true, true, true, true, true, true, true, true, true, true, true, true, true, true, true, true, false] rfl rfl (any_of HT_.out (by kernel_rfl)) (fun _ _ _ h => h) (Or.inl ⟨by rfl, ?_⟩) ?_ ?_
                          rotate_left
                          · intro w'
                            go_simp
                            with_reducible rfl
                          rotate_left
                          · simp only [Act.put, List.setIfInBounds_toArray, List.set_cons_zero, List.set_cons_succ, i64_w, i32_w]
                            rfl
                          refine pure_ (i := 25) (N := some 213) (v := ?_) (a' := ?_) #[true, true, true, true, true, true, true, true, true, true, true, true, true, true, true, true, true, true, true, true, true, true, true, true, true, true] rfl rfl (any_of HT_.out (by kernel_rfl)) (fun _ _ _ h => h) (Or.inl ⟨by rfl, ?_⟩) ?_ ?_
                          rotate_left
                          · intro w'
                            go_simp
                            with_reducible rfl
                          rotate_left
                          · simp only [Act.put, List.setIfInBounds_toArray, List.set_cons_zero, List.set_cons_succ, i64_w, i32_w]
                            rfl
                          refine done_ (done_of HT_.out (by kernel_rfl)) ?_
                          try go_wp2
                          go_meet
                          case rel => exact ⟨_, (false), (by first | rfl | (simp; done) | (simp [*]; done)), H', ⟨by have := HJ7.out; have := HJ21.out; have := HJ35.out; have := HJ44.out; have := HJ60.out; have := HK6.out; first | omega | exact Nat.le_refl _⟩, ⟨by exact lB HB.out⟩⟩
                    · rw [if_neg c96] at H
                      exact absurd H (by simp)
                  · rw [if_neg c95] at H
                    exact absurd H (by simp)
                · replace c94 := Bool.eq_false_iff.mpr c94
                  subst c94
                  have H1 : (laws_FnFractionsByAddresses.j6 k6 l0 false) = some r := by rw [if_neg (show ¬ (false = true) by decide)] at H; exact H
                  clear H
                  have H := H1
                  clear H1
                  have H' := Aside0.mk H
                  clear H
                  try go_wp2
                  have n0_ := Aside0.mk (Kd.R_drew HO_26.out)
                  have n1_ := Aside0.mk (blk_drew BK282.out)
                  have n2_ := Aside0.mk (below_drew1 HB.out)
                  clear HO_26
                  clear BK282
                  clear HB
                  have HO_26 := n0_
                  have BK282 := n1_
                  have HB := n2_
                  clear n0_ n1_ n2_
                  refine start_ (n := 26) (S := fun w' => True) (ds := []) #[false, false, false, false, false, false, false, false, false, false, false, false, false, false, false, false, false, false, false, false, false, false, false, false, false, false] (by kernel_rfl) rfl rfl trivial (fun hHeld => ?_); refine with_tabW laws_FnFractionsByAddresses.tab33 laws_FnFractionsByAddresses.bits33 (fun HT_ HW_ => ?_)
                  generalize wr.drew = w110 at HO_26 BK282 HB hHeld ⊢
                  refine pure_ (i := 0) (N := some 188) (v := ?_) (a' := ?_) #[true, false, false, false, false, false, false, false, false, false, false, false, false, false, false, false, false, false, false, false, false, false, false, false, false, false] rfl rfl (any_of HT_.out (by kernel_rfl)) (fun _ _ _ h => h) (Or.inl ⟨by rfl, ?_⟩) ?_ ?_
                  rotate_left
                  · intro w'
                    go_simp
                    with_reducible rfl
                  rotate_left
                  · simp only [Act.put, List.setIfInBounds_toArray, List.set_cons_zero, List.set_cons_succ, i64_w, i32_w]
                    rfl
                  refine pure_ (i := 1) (N := some 189) (v := ?_) (a' := ?_) #[true, true, false, false, false, false, false, false, false, false, false, false, false, false, false, false, false, false, false, false, false, false, false, false, false, false] rfl rfl (any_of HT_.out (by kernel_rfl)) (fun _ _ _ h => h) (Or.inl ⟨by rfl, ?_⟩) ?_ ?_
                  rotate_left
                  · intro w'
                    go_simp
                    with_reducible rfl
                  rotate_left
                  · simp only [Act.put, List.setIfInBounds_toArray, List.set_cons_zero, List.set_cons_succ, i64_w, i32_w]
                    rfl
                  refine pure_ (i := 2) (N := some 190) (v := undef) (a' := ?_) #[true, true, true, false, false, false, false, false, false, false, false, false, false, false, false, false, false, false, false, false, false, false, false, false, false, false] rfl rfl (any_of HT_.out (by kernel_rfl)) (fun _ _ _ h => h) (Or.inr ⟨by rfl, rfl⟩) ?_ ?_
                  rotate_left
                  · simp only [Act.put, List.setIfInBounds_toArray, List.set_cons_zero, List.set_cons_succ, i64_w, i32_w]
                    rfl
                  refine pure_ (i := 3) (N := some 191) (v := undef) (a' := ?_) #[true, true, true, true, false, false, false, false, false, false, false, false, false, false, false, false, false, false, false, false, false, false, false, false, false, false] rfl rfl (any_of HT_.out (by kernel_rfl)) (fun _ _ _ h => h) (Or.inr ⟨by rfl, rfl⟩) ?_ ?_
                  rotate_left
                  · simp only [Act.put, List.setIfInBounds_toArray, List.set_cons_zero, List.set_cons_succ, i64_w, i32_w]
                    rfl
                  refine pure_ (i := 4) (N := some 192) (v := undef) (a' := ?_) #[true, true, true, true, true, false, false, false, false, false, false, false, false, false, false, false, false, false, false, false, false, false, false, false, false, false] rfl rfl (any_of HT_.out (by kernel_rfl)) (fun _ _ _ h => h) (Or.inr ⟨by rfl, rfl⟩) ?_ ?_
                  rotate_left
                  · simp only [Act.put, List.setIfInBounds_toArray, List.set_cons_zero, List.set_cons_succ, i64_w, i32_w]
                    rfl
                  refine pure_ (i := 5) (N := some 193) (v := undef) (a' := ?_) #[true, true, true, true, true, true, false, false, false, false, false, false, false, false, false, false, false, false, false, false, false, false, false, false, false, false] rfl rfl (any_of HT_.out (by kernel_rfl)) (fun _ _ _ h => h) (Or.inr ⟨by rfl, rfl⟩) ?_ ?_
                  rotate_left
                  · simp only [Act.put, List.setIfInBounds_toArray, List.set_cons_zero, List.set_cons_succ, i64_w, i32_w]
                    rfl
                  refine pure_ (i := 6) (N := some 194) (v := undef) (a' := ?_) #[true, true, true, true, true, true, true, false, false, false, false, false, false, false, false, false, false, false, false, false, false, false, false, false, false, false] rfl rfl (any_of HT_.out (by kernel_rfl)) (fun _ _ _ h => h) (Or.inr ⟨by rfl, rfl⟩) ?_ ?_
                  rotate_left
                  · simp only [Act.put, List.setIfInBounds_toArray, List.set_cons_zero, List.set_cons_succ, i64_w, i32_w]
                    rfl
                  refine pure_ (i := 7) (N := some 195) (v := undef) (a' := ?_) #[true, true, true, true, true, true, true, true, false, false, false, false, false, false, false, false, false, false, false, false, false, false, false, false, false, false] rfl rfl (any_of HT_.out (by kernel_rfl)) (fun _ _ _ h => h) (Or.inr ⟨by rfl, rfl⟩) ?_ ?_
                  rotate_left
                  · simp only [Act.put, List.setIfInBounds_toArray, List.set_cons_zero, List.set_cons_succ, i64_w, i32_w]
                    rfl
                  refine pure_ (i := 8) (N := some 196) (v := undef) (a' := ?_) #[true, true, true, true, true, true, true, true, true, false, false, false, false, false, false, false, false, false, false, false, false, false, false, false, false, false] rfl rfl (any_of HT_.out (by kernel_rfl)) (fun _ _ _ h => h) (Or.inr ⟨by rfl, rfl⟩) ?_ ?_
                  rotate_left
                  · simp only [Act.put, List.setIfInBounds_toArray, List.set_cons_zero, List.set_cons_succ, i64_w, i32_w]
                    rfl
                  refine pure_ (i := 9) (N := some 197) (v := undef) (a' := ?_) #[true, true, true, true, true, true, true, true, true, true, false, false, false, false, false, false, false, false, false, false, false, false, false, false, false, false] rfl rfl (any_of HT_.out (by kernel_rfl)) (fun _ _ _ h => h) (Or.inr ⟨by rfl, rfl⟩) ?_ ?_
                  rotate_left
                  · simp only [Act.put, List.setIfInBounds_toArray, List.set_cons_zero, List.set_cons_succ, i64_w, i32_w]
                    rfl
                  refine pure_ (i := 10) (N := some 198) (v := undef) (a' := ?_) #[true, true, true, true, true, true, true, true, true, true, true, false, false, false, false, false, false, false, false, false, false, false, false, false, false, false] rfl rfl (any_of HT_.out (by kernel_rfl)) (fun _ _ _ h => h) (Or.inr ⟨by rfl, rfl⟩) ?_ ?_
                  rotate_left
                  · simp only [Act.put, List.setIfInBounds_toArray, List.set_cons_zero, List.set_cons_succ, i64_w, i32_w]
                    rfl
                  refine pure_ (i := 11) (N := some 199) (v := undef) (a' := ?_) #[true, true, true, true, true, true, true, true, true, true, true, true, false, false, false, false, false, false, false, false, false, false, false, false, false, false] rfl rfl (any_of HT_.out (by kernel_rfl)) (fun _ _ _ h => h) (Or.inr ⟨by rfl, rfl⟩) ?_ ?_
                  rotate_left
                  · simp only [Act.put, List.setIfInBounds_toArray, List.set_cons_zero, List.set_cons_succ, i64_w, i32_w]
                    rfl
                  refine pure_ (i := 12) (N := some 200) (v := undef) (a' := ?_) #[true, true, true, true, true, true, true, true, true, true, true, true, true, false, false, false, false, false, false, false, false, false, false, false, false, false] rfl rfl (any_of HT_.out (by kernel_rfl)) (fun _ _ _ h => h) (Or.inr ⟨by rfl, rfl⟩) ?_ ?_
                  rotate_left
                  · simp only [Act.put, List.setIfInBounds_toArray, List.set_cons_zero, List.set_cons_succ, i64_w, i32_w]
                    rfl
                  refine pure_ (i := 13) (N := some 201) (v := undef) (a' := ?_) #[true, true, true, true, true, true, true, true, true, true, true, true, true, true, false, false, false, false, false, false, false, false, false, false, false, false] rfl rfl (any_of HT_.out (by kernel_rfl)) (fun _ _ _ h => h) (Or.inr ⟨by rfl, rfl⟩) ?_ ?_
                  rotate_left
                  · simp only [Act.put, List.setIfInBounds_toArray, List.set_cons_zero, List.set_cons_succ, i64_w, i32_w]
                    rfl
                  refine pure_ (i := 14) (N := some 202) (v := undef) (a' := ?_) #[true, true, true, true, true, true, true, true, true, true, true, true, true, true, true, false, false, false, false, false, false, false, false, false, false, false] rfl rfl (any_of HT_.out (by kernel_rfl)) (fun _ _ _ h => h) (Or.inr ⟨by rfl, rfl⟩) ?_ ?_
                  rotate_left
                  · simp only [Act.put, List.setIfInBounds_toArray, List.set_cons_zero, List.set_cons_succ, i64_w, i32_w]
                    rfl
                  refine pure_ (i := 15) (N := some 203) (v := undef) (a' := ?_) #[true, true, true, true, true, true, true, true, true, true, true, true, true, true, true, true, false, false, false, false, false, false, false, false, false, false] rfl rfl (any_of HT_.out (by kernel_rfl)) (fun _ _ _ h => h) (Or.inr ⟨by rfl, rfl⟩) ?_ ?_
                  rotate_left
                  · simp only [Act.put, List.setIfInBounds_toArray, List.set_cons_zero, List.set_cons_succ, i64_w, i32_w]
                    rfl
                  refine pure_ (i := 16) (N := some 204) (v := undef) (a' := ?_) #[true, true, true, true, true, true, true, true, true, true, true, true, true, true, true, true, true, false, false, false, false, false, false, false, false, false] rfl rfl (any_of HT_.out (by kernel_rfl)) (fun _ _ _ h => h) (Or.inr ⟨by rfl, rfl⟩) ?_ ?_
                  rotate_left
                  · simp only [Act.put, List.setIfInBounds_toArray, List.set_cons_zero, List.set_cons_succ, i64_w, i32_w]
                    rfl
                  refine pure_ (i := 17) (N := some 205) (v := undef) (a' := ?_) #[true, true, true, true, true, true, true, true, true, true, true, true, true, true, true, true, true, true, false, false, false, false, false, false, false, false] rfl rfl (any_of HT_.out (by kernel_rfl)) (fun _ _ _ h => h) (Or.inr ⟨by rfl, rfl⟩) ?_ ?_
                  rotate_left
                  · simp only [Act.put, List.setIfInBounds_toArray, List.set_cons_zero, List.set_cons_succ, i64_w, i32_w]
                    rfl
                  refine pure_ (i := 18) (N := some 206) (v := undef) (a' := ?_) #[true, true, true, true, true, true, true, true, true, true, true, true, true, true, true, true, true, true, true, false, false, false, false, false, false, false] rfl rfl (any_of HT_.out (by kernel_rfl)) (fun _ _ _ h => h) (Or.inr ⟨by rfl, rfl⟩) ?_ ?_
                  rotate_left
                  · simp only [Act.put, List.setIfInBounds_toArray, List.set_cons_zero, List.set_cons_succ, i64_w, i32_w]
                    rfl
                  refine pure_ (i := 19) (N := some 207) (v := undef) (a' := ?_) #[true, true, true, true, true, true, true, true, true, true, true, true, true, true, true, true, true, true, true, true, false, false, false, false, false, false] rfl rfl (any_of HT_.out (by kernel_rfl)) (fun _ _ _ h => h) (Or.inr ⟨by rfl, rfl⟩) ?_ ?_
                  rotate_left
                  · simp only [Act.put, List.setIfInBounds_toArray, List.set_cons_zero, List.set_cons_succ, i64_w, i32_w]
                    rfl
                  refine pure_ (i := 20) (N := some 208) (v := undef) (a' := ?_) #[true, true, true, true, true, true, true, true, true, true, true, true, true, true, true, true, true, true, true, true, true, false, false, false, false, false] rfl rfl (any_of HT_.out (by kernel_rfl)) (fun _ _ _ h => h) (Or.inr ⟨by rfl, rfl⟩) ?_ ?_
                  rotate_left
                  · simp only [Act.put, List.setIfInBounds_toArray, List.set_cons_zero, List.set_cons_succ, i64_w, i32_w]
                    rfl
                  refine pure_ (i := 21) (N := some 209) (v := undef) (a' := ?_) #[true, true, true, true, true, true, true, true, true, true, true, true, true, true, true, true, true, true, true, true, true, true, false, false, false, false] rfl rfl (any_of HT_.out (by kernel_rfl)) (fun _ _ _ h => h) (Or.inr ⟨by rfl, rfl⟩) ?_ ?_
                  rotate_left
                  · simp only [Act.put, List.setIfInBounds_toArray, List.set_cons_zero, List.set_cons_succ, i64_w, i32_w]
                    rfl
                  refine pure_ (i := 22) (N := some 210) (v := undef) (a' := ?_) #[true, true, true, true, true, true, true, true, true, true, true, true, true, true, true, true, true, true, true, true, true, true, true, false, false, false] rfl rfl (any_of HT_.out (by kernel_rfl)) (fun _ _ _ h => h) (Or.inr ⟨by rfl, rfl⟩) ?_ ?_
                  rotate_left
                  · simp only [Act.put, List.setIfInBounds_toArray, List.set_cons_zero, List.set_cons_succ, i64_w, i32_w]
                    rfl
                  refine pure_ (i := 23) (N := some 211) (v := undef) (a' := ?_) #[true, true, true, true, true, true, true, true, true, true, true, true, true, true, true, true, true, true, true, true, true, true, true, true, false, false] rfl rfl (any_of HT_.out (by kernel_rfl)) (fun _ _ _ h => h) (Or.inr ⟨by rfl, rfl⟩) ?_ ?_
                  rotate_left
                  · simp only [Act.put, List.setIfInBounds_toArray, List.set_cons_zero, List.set_cons_succ, i64_w, i32_w]
                    rfl
                  refine pure_ (i := 24) (N := some 212) (v := undef) (a' := ?_) #[true, true, true, true, true, true, true, true, true, true, true, true, true, true, true, true, true, true, true, true, true, true, true, true, true, false] rfl rfl (any_of HT_.out (by kernel_rfl)) (fun _ _ _ h => h) (Or.inr ⟨by rfl, rfl⟩) ?_ ?_
                  rotate_left
                  · simp only [Act.put, List.setIfInBounds_toArray, List.set_cons_zero, List.set_cons_succ, i64_w, i32_w]
                    rfl
                  refine pure_ (i := 25) (N := some 213) (v := ?_) (a' := ?_) #[true, true, true, true, true, true, true, true, true, true, true, true, true, true, true, true, true, true, true, true, true, true, true, true, true, true] rfl rfl (any_of HT_.out (by kernel_rfl)) (fun _ _ _ h => h) (Or.inl ⟨by rfl, ?_⟩) ?_ ?_
                  rotate_left
                  · intro w'
                    go_simp
                    with_reducible rfl
                  rotate_left
                  · simp only [Act.put, List.setIfInBounds_toArray, List.set_cons_zero, List.set_cons_succ, i64_w, i32_w]
                    rfl
                  refine done_ (done_of HT_.out (by kernel_rfl)) ?_
                  try go_wp2
                  go_meet
                  case rel => exact ⟨_, (false), (by first | rfl | (simp; done) | (simp [*]; done)), H', ⟨by have := HJ7.out; have := HJ21.out; have := HJ35.out; have := HJ44.out; have := HJ60.out; have := HK6.out; first | omega | exact Nat.le_refl _⟩, ⟨by exact lB HB.out⟩⟩
            case rest =>
              as_aux_lemma =>
                clear HC92
                obtain ⟨kq, x213_91, rfl, HA, HJ91, HB⟩ := hcut
                cases kq with
                | zero => exact absurd HA.out (by simp [laws_FnFractionsByAddresses.j6])
                | succ kj91 =>
                  have H := HA.out
                  clear HA
                  simp only [laws_FnFractionsByAddresses.j6] at H
                  by_cases c111 : x213_91 = true
                  · subst c111
                    have H1 : (some false) = some r := by rw [if_pos rfl] at H; exact H
                    clear H
                    have H := H1
                    clear H1
                    exact absurd ((Option.some.inj H).trans HRT.out) (by decide)
                  · replace c111 := Bool.eq_false_iff.mpr c111
                    subst c111
                    have H1 : ((spec_DrawIsFraction.f kj91 l0).bind fun bt304 => ((impl_IsFraction.f bt304.1 bt304.2).bind fun t307 => ((spec_IsFraction.f bt304.1 bt304.2).bind fun t308 => (some (t307 == t308))))) = some r := by rw [if_neg (show ¬ (false = true) by decide)] at H; exact H
                    clear H
                    have H := H1
                    clear H1
                    replace H := Option.bind_eq_some_iff.mp H
                    obtain ⟨⟨t304, t305⟩, A1120, H⟩ := H
                    replace H : ((impl_IsFraction.f t304 t305).bind fun t307 => ((spec_IsFraction.f t304 t305).bind fun t308 => (some (t307 == t308)))) = some r := H
                    have A112 := Aside0.mk A1120
                    clear A1120
                    replace H := Option.bind_eq_some_iff.mp H
                    obtain ⟨t307, A1130, H⟩ := H
                    replace H : ((spec_IsFraction.f t304 t305).bind fun t308 => (some (t307 == t308))) = some r := H
                    have A113 := Aside0.mk A1130
                    clear A1130
                    replace H := Option.bind_eq_some_iff.mp H
                    obtain ⟨t308, A1140, H⟩ := H
                    replace H : (some (t307 == t308)) = some r := H
                    have A114 := Aside0.mk A1140
                    clear A1140
                    obtain rfl := Option.some.inj H
                    try go_wp2_with (first | ((with_reducible refine gate_callee (f := 33) rfl ?_); refine goesL_ (some 215) rfl rfl Tryd.func33 (by kernel_rfl) rfl #[.slice A0 l0.length c0] rfl lm ?_; (with_reducible refine (spec_DrawIsFraction.calls kj91 _ _ l0 t304 t305 _ ?side1 ?side2 A112.out).mono ?_); (case side1 => repeat (first | exact (Kd.C_below HR0.out HB.out) | (with_reducible refine Kd.C_alloc ?_ _) | (with_reducible refine Kd.C_drewN ?_ _) | (with_reducible refine Kd.C_drew ?_))); (case side2 => exact HC0.out); rintro e w115 ⟨rfl, hb⟩; refine ⟨_, rfl, ?_⟩; have n0_ := Aside0.mk (below_step (lB HB.out) hb); clear HB; have HB := n0_; clear n0_; (try clear hb); (try clear hb2); (try clear hk); (try clear hi)) | ((with_reducible refine gate_dst (N := 31) rfl ?_); (try (refine gate_guard (by rfl) ?_; dsimp only)); refine box_event ?hg (N := 31) ?hd (cs := #[.int .i64 0, .int .i64 0]) (t := 31) ?hr ?_; (case hd => rfl); (case hg => rfl); (case hr => exact lr); intro gb306 hg w116 hbox hb; have n0_ := Aside0.mk (below_step (lB HB.out) hb); have n1_ := Aside0.mk (hbox); have n2_ := gw hg (lB HB.out); have n3_ := gw hg (lB HB.out); clear HB; have HB := n0_; have BK306 := n1_; have GW306 := n2_; have GE306 := n3_; clear n0_ n1_ n2_ n3_; clear hb hbox hg; have hcz117_0 : w116.cell? ⟨gb306, 0, none⟩ = some (.int .i64 0) := (blk_cell BK306.out 0).trans rfl; have hcz117_1 : w116.cell? ⟨gb306, 1, none⟩ = some (.int .i64 0) := (blk_cell BK306.out 1).trans rfl; have hfz117_0 := blk_frozen BK306.out 0; have hfz117_1 := blk_frozen BK306.out 1))
                    have n0_ : Aside0 (((w116.setCell ⟨gb306, 0, none⟩ (.int .i64 t304)).setCell ⟨gb306, 1, none⟩ (.int .i64 t305)).heap[gb306]? = some (.cells #[.int .i64 t304, .int .i64 t305] 31 (0, 0))) := ⟨by (with_reducible repeat (first | refine blk_drewN ?_ _ | refine blk_drew ?_ | refine blk_alloc ?_ _)); refine blk_put (cs := #[.int .i64 t304, .int .i64 0]) ?_ 1 _ rfl; (with_reducible repeat (first | refine blk_drewN ?_ _ | refine blk_drew ?_ | refine blk_alloc ?_ _)); refine blk_put (cs := #[.int .i64 0, .int .i64 0]) ?_ 0 _ rfl; exact lb BK306.out⟩
                    have n1_ : Aside0 (Below w.heap.size w ((w116.setCell ⟨gb306, 0, none⟩ (.int .i64 t304)).setCell ⟨gb306, 1, none⟩ (.int .i64 t305))) := ⟨by exact lB HB.out⟩
                    (try clear BK306)
                    (try clear HB)
                    generalize ((w116.setCell ⟨gb306, 0, none⟩ (.int .i64 t304)).setCell ⟨gb306, 1, none⟩ (.int .i64 t305)) = w118 at n0_ n1_ ⊢
                    have BK306 := n0_
                    have HB := n1_
                    clear n0_ n1_
                    have n0_ := Aside0.mk (blk_drew BK306.out)
                    have n1_ := Aside0.mk (below_drew1 HB.out)
                    clear BK306
                    clear HB
                    have BK306 := n0_
                    have HB := n1_
                    clear n0_ n1_
                    refine start_ (n := 6) (S := fun w' => w'.cell? ⟨gb306, 0, none⟩ = some (.int .i64 t304) ∧ w'.cell? ⟨gb306, 1, none⟩ = some (.int .i64 t305)) (ds := []) #[false, false, false, false, false, false] (by kernel_rfl) rfl rfl ⟨(blk_cell BK306.out 0).trans rfl, (blk_cell BK306.out 1).trans rfl⟩ (fun hHeld => ?_)
                    generalize w118.drew = w119 at BK306 HB hHeld ⊢
                    refine take_ (i := 0) (N := some 216) (v := ?_) (a' := ?_) #[true, false, false, false, false, false] rfl rfl (by kernel_rfl) (fun _ _ _ h => h) (Or.inl ⟨by rfl, ?_⟩) hHeld ?_ ?_
                    rotate_left
                    · rintro w' ⟨s0, s1⟩
                      go_simp
                      with_reducible rfl
                    rotate_left
                    · simp only [Act.put, List.setIfInBounds_toArray, List.set_cons_zero, List.set_cons_succ, i64_w, i32_w]
                      rfl
                    refine take_ (i := 2) (N := some 218) (v := ?_) (a' := ?_) #[true, false, true, false, false, false] rfl rfl (by kernel_rfl) (fun _ _ _ h => h) (Or.inl ⟨by rfl, ?_⟩) hHeld ?_ ?_
                    rotate_left
                    · rintro w' ⟨s0, s1⟩
                      go_simp
                      with_reducible rfl
                    rotate_left
                    · simp only [Act.put, List.setIfInBounds_toArray, List.set_cons_zero, List.set_cons_succ, i64_w, i32_w]
                      rfl
                    refine one_ (i := 1) (N := some 217) #[true, true, true, false, false, false] rfl rfl (by kernel_rfl) (by decide) (fun K hK => ?_)
                    refine goes_ Tryd.func22 (by kernel_rfl) rfl #[.agg #[.int .i64 t304, .int .i64 t305]] (by rfl) rfl rfl lm ?_
                    with_reducible refine (impl_IsFraction.calls t304 t305 t307 _ A113.out).mono ?_
                    rintro e w120 ⟨rfl, hb⟩
                    refine ⟨_, rfl, ?_⟩
                    have n0_ := Aside0.mk (blk_below (lb BK306.out) hb)
                    have n1_ := Aside0.mk (below_step (lB HB.out) hb)
                    clear BK306
                    clear HB
                    have BK306 := n0_
                    have HB := n1_
                    clear n0_ n1_
                    (try clear hb)
                    (try clear hb2)
                    (try clear hk)
                    (try clear hi)
                    refine hK.out _ _ ⟨(blk_cell BK306.out 0).trans rfl, (blk_cell BK306.out 1).trans rfl⟩ (fun hHeld => ?_)
                    clear hK K
                    refine norm_ (a' := ?_) ?_ ?_
                    rotate_left
                    · show Act.put _ (some 217) _ = _
                      simp only [Act.put, List.setIfInBounds_toArray, List.set_cons_zero, List.set_cons_succ, i64_w, i32_w]
                      rfl
                    refine one_ (i := 3) (N := some 219) #[true, true, true, true, false, false] rfl rfl (by kernel_rfl) (by decide) (fun K hK => ?_)
                    refine goes_ Tryd.func34 (by kernel_rfl) rfl #[.agg #[.int .i64 t304, .int .i64 t305]] (by rfl) rfl rfl lm ?_
                    with_reducible refine (spec_IsFraction.calls t304 t305 t308 _ A114.out).mono ?_
                    rintro e w121 ⟨rfl, hb⟩
                    refine ⟨_, rfl, ?_⟩
                    have n0_ := Aside0.mk (blk_below (lb BK306.out) hb)
                    have n1_ := Aside0.mk (below_step (lB HB.out) hb)
                    clear BK306
                    clear HB
                    have BK306 := n0_
                    have HB := n1_
                    clear n0_ n1_
                    (try clear hb)
                    refine hK.out _ _ ⟨(blk_cell BK306.out 0).trans rfl, (blk_cell BK306.out 1).trans rfl⟩ (fun hHeld => ?_)
                    clear hK K
                    refine norm_ (a' := ?_) ?_ ?_
                    rotate_left
                    · show Act.put _ (some 219) _ = _
                      simp only [Act.put, List.setIfInBounds_toArray, List.set_cons_zero, List.set_cons_succ, i64_w, i32_w]
                      rfl
                    refine pure_ (i := 4) (N := some 220) (v := ?_) (a' := ?_) #[true, true, true, true, true, false] rfl rfl (by kernel_rfl) (fun _ _ _ h => h) (Or.inl ⟨by rfl, ?_⟩) ?_ ?_
                    rotate_left
                    · intro w'
                      go_simp
                      with_reducible rfl
                    rotate_left
                    · simp only [Act.put, List.setIfInBounds_toArray, List.set_cons_zero, List.set_cons_succ, i64_w, i32_w]
                      rfl
                    refine pure_ (i := 5) (N := some 4) (v := ?_) (a' := ?_) #[true, true, true, true, true, true] rfl rfl (by kernel_rfl) (fun _ _ _ h => h) (Or.inl ⟨by rfl, ?_⟩) ?_ ?_
                    rotate_left
                    · intro w'
                      go_simp
                      with_reducible rfl
                    rotate_left
                    · simp only [Act.put, List.setIfInBounds_toArray, List.set_cons_zero, List.set_cons_succ, i64_w, i32_w]
                      rfl
                    refine done_ (by kernel_rfl) ?_
                    try go_wp2
                    go_ret
                    exact ⟨by first | rfl | (simp [errW_none, errW_some] <;> rfl) | (simp [*, errW_none, errW_some] <;> rfl), by exact lB HB.out⟩
def laws_FnFractionsByAddresses.Pure : Prop := ∀ (l0 : List Int) (l1 : List Int), l0.length ≤ maxLen → l0.length * 1 ≤ 140737488351232 → (∀ x ∈ l0, (Lit.int .u8 x).wf = true) → l1.length ≤ maxLen → l1.length * 1 ≤ 140737488351232 → (∀ x ∈ l1, (Lit.int .u8 x).wf = true) → ∃ k, laws_FnFractionsByAddresses.f k l0 l1 = some true
theorem laws_FnFractionsByAddresses.walk (P : laws_FnFractionsByAddresses.Pure) (a0 : Option Addr) (len0 cap0 : Nat) (z0 : List Int) (a1 : Option Addr) (len1 cap1 : Nat) (z1 : List Int) (w : World) (w0 : (a0 = none ∧ len0 = 0 ∧ cap0 = 0 ∧ z0 = []) ∨ ∃ x, a0 = some x ∧ len0 ≤ cap0 ∧ cap0 ≤ maxLen ∧ z0.length = cap0 ∧ (∀ i, i < z0.length → w.cell? (x.add i) = some (.int .u8 (z0.getD i 0))) ∧ ∀ n ∈ z0, (Lit.int .u8 n).wf = true) (y0 : len0 * 1 ≤ 140737488351232) (w1 : (a1 = none ∧ len1 = 0 ∧ cap1 = 0 ∧ z1 = []) ∨ ∃ x, a1 = some x ∧ len1 ≤ cap1 ∧ cap1 ≤ maxLen ∧ z1.length = cap1 ∧ (∀ i, i < z1.length → w.cell? (x.add i) = some (.int .u8 (z1.getD i 0))) ∧ ∀ n ∈ z1, (Lit.int .u8 n).wf = true) (y1 : len1 * 1 ≤ 140737488351232) :
    Calls Tryd.prog 5 #[.slice a0 len0 cap0, .slice a1 len1 cap1] w fun e w' => e = .returned (.bool true) ∧ Below w.heap.size w w' := by
  obtain ⟨l0, rfl, hr0, hm0, hw0, hc0⟩ := ReadsInt.ofRowC w0
  obtain ⟨l1, rfl, hr1, hm1, hw1, hc1⟩ := ReadsInt.ofRowC w1
  obtain ⟨k, h⟩ := P l0 l1 hm0 y0 hw0 hm1 y1 hw1
  refine (laws_FnFractionsByAddresses.calls k _ _ l0 _ _ l1 true w (Kd.C_of_reads (d := (0 : Int)) (h1 := fun _ => rfl) hr0) hc0 (Kd.C_of_reads (d := (0 : Int)) (h1 := fun _ => rfl) hr1) hc1 h (Aside0.mk rfl)).mono ?_
  rintro e w' ⟨rfl, hd⟩
  exact ⟨rfl, hd⟩
end Go.Proofs.YtgnepbogadfinaaDoor.PA
namespace Go.Proofs.YtgnepbogadfinaaDoor.PA
open Go.RowKit Go.Proofs.YtgnepbogadfinaaDoorW.PrintWords
def Oct (l : List Int) : Prop := ∀ x ∈ l, 0 ≤ x ∧ x ≤ 255
def Lf (m : Nat) (a : Int) : Prop := 0 ≤ a ∧ a + m ≤ 4611686018427387904
theorem Lf.less {m n : Nat} {a : Int} (h : Lf m a) (hn : n ≤ m) : Lf n a := by unfold Lf at *; omega
theorem oct_of3 {l : List Int} (h : ∀ x ∈ l, (Lit.int .u8 x).wf = true) : Oct l := fun x hx => by
  have := h x hx
  simp [Lit.wf, IntKind.min, IntKind.max, IntKind.bits, IntKind.signed] at this
  omega
theorem w64 {x : Int} (h : -9223372036854775808 ≤ x ∧ x ≤ 9223372036854775807) : wrap64 x = x := by unfold wrap64; omega
theorem rd_oct {l : List Int} (hl : Oct l) (i : Int) (h0 : 0 ≤ i) (h1 : i < l.length) : 0 ≤ rd l i ∧ rd l i ≤ 255 := by
  unfold rd
  rw [List.getD_eq_getElem?_getD, List.getElem?_eq_getElem (by omega)]
  exact hl _ (List.getElem_mem _)
theorem u64_range (n : Int) : 0 ≤ IntKind.u64.wrap n ∧ IntKind.u64.wrap n < 18446744073709551616 := by
  simp [IntKind.wrap, IntKind.bits, IntKind.signed]; omega
theorem u64_in (n : Int) (h0 : 0 ≤ n) (h1 : n < 2 ^ 64) : IntKind.u64.wrap n = n := by
  simp [IntKind.wrap, IntKind.bits, IntKind.signed]; omega
theorem byte_of (n : Int) : 0 ≤ wrap64 (Go.bits .and .u64 (IntKind.u64.wrap n / 1099511627776) 255) ∧ wrap64 (Go.bits .and .u64 (IntKind.u64.wrap n / 1099511627776) 255) ≤ 255 := by
  obtain ⟨h0, h1⟩ := u64_range n
  generalize IntKind.u64.wrap n = x at *
  have h2 : 0 ≤ x / 1099511627776 := by omega
  have h3 : x / 1099511627776 < 2 ^ 64 := by omega
  have := bits_mask .u64 64 (by decide) u64_in 8 (by decide) (x / 1099511627776) h2 h3
  rw [show ((2 : Int) ^ 8 - 1) = 255 from rfl] at this
  rw [this, w64 (by omega)]
  omega
theorem next_tot {l : List Int} (hl : Oct l) {m : Nat} {a s : Int} (h : Lf (m + 1) a) : ∃ r s', spec_l1Cur_next.f l a s = some (r, a + 1, s') ∧ 0 ≤ r ∧ r ≤ 255 := by
  unfold Lf at h
  have hw : wrap64 (a + 1) = a + 1 := w64 (by omega)
  unfold spec_l1Cur_next.f
  by_cases h1 : a < (l.length : Int)
  · obtain ⟨b0, b1⟩ := rd_oct hl a h.1 h1
    rw [if_pos h1, if_pos h.1, hw]
    by_cases h2 : a + 1 ≤ (l.length : Int)
    · rw [if_pos h2, w64 (x := rd l a) (by omega)]
      exact ⟨_, _, rfl, b0, b1⟩
    · rw [if_neg h2]
      exact ⟨_, _, rfl, (byte_of _).1, (byte_of _).2⟩
  · rw [if_neg h1, hw]
    by_cases h2 : a + 1 ≤ (l.length : Int)
    · rw [if_pos h2]
      try simp only [Option.bind_some]
      exact ⟨_, _, rfl, by omega, by omega⟩
    · rw [if_neg h2]
      exact ⟨_, _, rfl, (byte_of _).1, (byte_of _).2⟩
theorem pick_tot {l : List Int} (hl : Oct l) {m : Nat} {a s : Int} (n : Int) (hn : n ≤ 1000000000) (h : Lf (m + 2) a) : ∃ r a' s', spec_l1Cur_pick.f l a s n = some (r, a', s') ∧ 0 ≤ r ∧ (1 ≤ n → r < n) ∧ Lf m a' := by
  unfold spec_l1Cur_pick.f
  by_cases h1 : n ≤ 1
  · rw [if_pos h1]
    exact ⟨0, a, s, rfl, by omega, fun _ => by omega, h.less (by omega)⟩
  · obtain ⟨r, s', e, r0, r1⟩ := next_tot hl (m := m + 1) (a := a) (s := s) h
    rw [if_neg h1, e]
    simp only [Option.bind_some]
    have h' : Lf (m + 1) (a + 1) := by unfold Lf at *; omega
    by_cases h2 : n > 200
    · obtain ⟨r2, s2, e2, r20, r21⟩ := next_tot hl (m := m) (s := s') h'
      rw [if_pos h2, e2]
      simp only [Option.bind_some]
      rw [if_neg (by omega), w64 (x := r * 256) (by omega), w64 (by omega)]
      have hm : Int.tmod (r * 256 + r2) n = (r * 256 + r2) % n := Int.tmod_eq_emod_of_nonneg (by omega)
      rw [hm]
      exact ⟨_, _, _, rfl, Int.emod_nonneg _ (by omega), fun _ => Int.emod_lt_of_pos _ (by omega), by unfold Lf at *; omega⟩
    · rw [if_neg h2, if_neg (by omega)]
      have hm : Int.tmod r n = r % n := Int.tmod_eq_emod_of_nonneg (by omega)
      rw [hm]
      exact ⟨_, _, _, rfl, Int.emod_nonneg _ (by omega), fun _ => Int.emod_lt_of_pos _ (by omega), by unfold Lf at *; omega⟩
theorem among_tot {l : List Int} (hl : Oct l) {m : Nat} {a s : Int} (xs : List Int) (h0 : 0 < xs.length) (hn : xs.length ≤ 1000) (h : Lf (m + 2) a) : ∃ x a' s', spec_l1Cur_among.f l a s xs = some (x, a', s') ∧ x ∈ xs ∧ Lf m a' := by
  obtain ⟨r, a', s', e, r0, r1, h'⟩ := pick_tot hl (xs.length : Int) (by omega) (a := a) (s := s) h
  have r2 := r1 (by omega)
  unfold spec_l1Cur_among.f
  rw [e]
  simp only [Option.bind_some]
  rw [if_pos r0, if_pos r2]
  refine ⟨_, _, _, rfl, ?_, h'⟩
  unfold rd
  rw [List.getD_eq_getElem?_getD, List.getElem?_eq_getElem (by omega)]
  exact List.getElem_mem _
theorem lit4 : (⟨#[40, 46, 46, 41]⟩ : ByteArray) = N.tx (.node .leaf .leaf) := rfl
theorem graft_tot (T : N.Tr) (i : Int) (h0 : 0 ≤ i) (h1 : i < T.carets + 1) (h2 : T.carets < 900) : ∃ T' : N.Tr, spec_trGraft.f (N.tx T) i (⟨#[40, 46, 46, 41]⟩ : ByteArray) = some (N.tx T') ∧ T'.carets = T.carets + 1 := by
  refine ⟨N.graft T i.toNat (.node .leaf .leaf), ?_, ?_⟩
  · rw [lit4]
    unfold spec_trGraft.f
    rw [N.parseT_tx, N.parseT_tx]
    exact if_pos ⟨h0, by omega, by omega, by decide⟩
  · exact N.grown_one _ _ T 0 (Nat.zero_le _) (by omega)
theorem sureTree_loop {l : List Int} (hl : Oct l) (n : Nat) (hn : n ≤ 800) : ∀ (d k : Nat) (m : Nat) (a s : Int) (T : N.Tr) (i : Nat), i + d = n → d < k → T.carets = i → Lf (m + 2 * d) a →
    ∃ (T' : N.Tr) (a' s' : Int), spec_l1Cur_sureTree.l0 k n (N.tx T) i l a s = some (N.tx T', a', s') ∧ T'.carets = n ∧ Lf m a' := by
  intro d
  induction d with
  | zero =>
    intro k m a s T i hi hk hT h
    obtain ⟨k, rfl⟩ : ∃ q, k = q + 1 := ⟨k - 1, by omega⟩
    exact ⟨T, a, s, by simp only [spec_l1Cur_sureTree.l0]; rw [if_neg (by omega)], by omega, h⟩
  | succ d ih =>
    intro k m a s T i hi hk hT h
    obtain ⟨k, rfl⟩ : ∃ q, k = q + 1 := ⟨k - 1, by omega⟩
    obtain ⟨r, a1, s1, e, r0, r1, h1⟩ := pick_tot hl (m := m + 2 * d) (a := a) (s := s) ((i : Int) + 1) (by omega) (by unfold Lf at *; omega)
    have r2 := r1 (by omega)
    obtain ⟨T1, e1, hT1⟩ := graft_tot T r r0 (by omega) (by omega)
    obtain ⟨T', a', s', e2, hT', h2⟩ := ih k m a1 s1 T1 (i + 1) (by omega) (by omega) (by omega) h1
    refine ⟨T', a', s', ?_, hT', h2⟩
    simp only [spec_l1Cur_sureTree.l0]
    rw [if_pos (by omega), w64 (by omega), e]
    simp only [Option.bind_some]
    rw [e1]
    simp only [Option.bind_some]
    rw [show ((i : Int) + 1) = ((i + 1 : Nat) : Int) by omega]
    exact e2
theorem sureTree_tot {l : List Int} (hl : Oct l) {m : Nat} {a s : Int} (n : Nat) (hn : n ≤ 800) (k : Nat) (hk : n < k) (h : Lf (m + 2 * n) a) : ∃ (T : N.Tr) (a' s' : Int), spec_l1Cur_sureTree.f k l a s n = some (N.tx T, a', s') ∧ T.carets = n ∧ Lf m a' :=
  sureTree_loop hl n hn n k m a s .leaf 0 (by omega) hk rfl h
theorem str1 (b : Int) : (strOfNums [b]).size = 1 := by simp [strOfNums]; rfl
theorem ext_size (t : ByteArray) (i j : Nat) : (t.extract i j).size ≤ t.size := by simp [ByteArray.size_extract]; omega
theorem spoilt_loop {l : List Int} (hl : Oct l) (w : ByteArray) (hw : 0 < w.size) (hw2 : w.size ≤ 1000) : ∀ (d k m : Nat) (a s : Int) (t : ByteArray) (n : Int), 0 ≤ n → n.toNat = d → 2 * d + 1 < k → t.size + d ≤ 1000000 → Lf (m + 6 * d) a →
    ∃ (t' : ByteArray) (a' s' : Int), spec_l1Cur_spoilt.l0 k t w n l a s = some (t', a', s') ∧ t'.size ≤ t.size + d ∧ Lf m a' := by
  intro d
  induction d with
  | zero =>
    intro k m a s t n h0 hd hk ht h
    obtain ⟨k, rfl⟩ : ∃ q, k = q + 2 := ⟨k - 2, by omega⟩
    refine ⟨t, a, s, ?_, by omega, h⟩
    simp only [spec_l1Cur_spoilt.l0]
    rw [if_neg (by omega)]
    simp [spec_l1Cur_spoilt.j1]
  | succ d ih =>
    intro k m a s t n h0 hd hk ht h
    obtain ⟨k, rfl⟩ : ∃ q, k = q + 2 := ⟨k - 2, by omega⟩
    have hn : wrap64 (n - 1) = n - 1 := w64 (by omega)
    simp only [spec_l1Cur_spoilt.l0]
    rw [if_pos (by omega)]
    simp only [spec_l1Cur_spoilt.j1]
    by_cases hz : (t.size : Int) > 0
    · rw [decide_eq_true hz, if_pos rfl]
      obtain ⟨i, a1, s1, e1, i0, i1, h1⟩ := pick_tot hl (m := m + 6 * d + 4) (a := a) (s := s) (t.size : Int) (by omega) (by unfold Lf at *; omega)
      have i2 := i1 (by omega)
      obtain ⟨c, a2, s2, e2, c0, c1, h2⟩ := pick_tot hl (m := m + 6 * d + 2) (a := a1) (s := s1) (w.size : Int) (by omega) (by unfold Lf at *; omega)
      have c2 := c1 (by omega)
      obtain ⟨q, a3, s3, e3, q0, q1, h3⟩ := pick_tot hl (m := m + 6 * d) (a := a2) (s := s2) 3 (by omega) (by unfold Lf at *; omega)
      rw [e1]
      simp only [Option.bind_some]
      rw [e2]
      simp only [Option.bind_some]
      rw [if_pos c0, if_pos c2, e3]
      simp only [Option.bind_some]
      have x0 := ext_size t 0 i.toNat
      have xi : (t.extract i.toNat t.size).size + i.toNat ≤ t.size := by simp [ByteArray.size_extract]; omega
      have x00 : (t.extract 0 i.toNat).size ≤ i.toNat := by simp [ByteArray.size_extract]; omega
      have wi : wrap64 (i + 1) = i + 1 := w64 (by omega)
      have xj : (t.extract (i + 1).toNat t.size).size + i.toNat ≤ t.size := by simp [ByteArray.size_extract]; omega
      have s1_ := str1 (bt w c)
      by_cases q2 : q = 0
      · rw [if_pos q2, if_pos i0, if_pos (by omega), if_pos (by rw [s1_]; omega), if_pos (by rw [ByteArray.size_append, s1_]; omega), hn]
        have hs : (((t.extract 0 i.toNat) ++ strOfNums [bt w c]) ++ t.extract i.toNat t.size).size ≤ t.size + 1 := by rw [ByteArray.size_append, ByteArray.size_append, s1_]; omega
        obtain ⟨t', a', s', e4, ht', h4⟩ := ih k m a3 s3 (((t.extract 0 i.toNat) ++ strOfNums [bt w c]) ++ t.extract i.toNat t.size) (n - 1) (by omega) (by omega) (by omega) (by omega) h3
        exact ⟨t', a', s', e4, by omega, h4⟩
      · rw [if_neg q2]
        by_cases q3 : q = 1
        · rw [if_pos q3, if_pos i0, if_pos (by omega), if_pos (by rw [s1_]; omega), wi, if_pos (by omega), if_pos (by omega), if_pos (by rw [ByteArray.size_append, s1_]; omega), hn]
          have hs : (((t.extract 0 i.toNat) ++ strOfNums [bt w c]) ++ t.extract (i + 1).toNat t.size).size ≤ t.size + 1 := by rw [ByteArray.size_append, ByteArray.size_append, s1_]; omega
          obtain ⟨t', a', s', e4, ht', h4⟩ := ih k m a3 s3 (((t.extract 0 i.toNat) ++ strOfNums [bt w c]) ++ t.extract (i + 1).toNat t.size) (n - 1) (by omega) (by omega) (by omega) (by omega) h3
          exact ⟨t', a', s', e4, by omega, h4⟩
        · rw [if_neg q3, if_pos i0, if_pos (by omega), wi, if_pos (by omega), if_pos (by omega), if_pos (by omega), hn]
          have hs : ((t.extract 0 i.toNat) ++ t.extract (i + 1).toNat t.size).size ≤ t.size + 1 := by rw [ByteArray.size_append]; omega
          obtain ⟨t', a', s', e4, ht', h4⟩ := ih k m a3 s3 ((t.extract 0 i.toNat) ++ t.extract (i + 1).toNat t.size) (n - 1) (by omega) (by omega) (by omega) (by omega) h3
          exact ⟨t', a', s', e4, by omega, h4⟩
    · rw [decide_eq_false hz, if_neg (by decide)]
      exact ⟨t, a, s, rfl, by omega, h.less (by omega)⟩
theorem spoilt_tot {l : List Int} (hl : Oct l) {m : Nat} {a s : Int} (t w : ByteArray) (hw : 0 < w.size) (hw2 : w.size ≤ 1000) (ht : t.size ≤ 900000) (k : Nat) (hk : 5 < k) (h : Lf (m + 14) a) : ∃ (t' : ByteArray) (a' s' : Int), spec_l1Cur_spoilt.f k l a s t w = some (t', a', s') ∧ t'.size ≤ t.size + 2 ∧ Lf m a' := by
  obtain ⟨r, a1, s1, e1, r0, r1, h1⟩ := pick_tot hl (m := m + 12) (a := a) (s := s) 2 (by omega) (by unfold Lf at *; omega)
  have r2 := r1 (by omega)
  obtain ⟨t', a', s', e2, ht', h2⟩ := spoilt_loop hl w hw hw2 (1 + r).toNat k m a1 s1 t (1 + r) (by omega) rfl (by omega) (by omega) (by unfold Lf at *; omega)
  unfold spec_l1Cur_spoilt.f
  rw [e1]
  simp only [Option.bind_some]
  rw [w64 (by omega)]
  exact ⟨t', a', s', e2, by omega, h2⟩
theorem tx_size (T : N.Tr) : (N.tx T).size = 3 * T.carets + 1 := T.txt_length
theorem tree_tot {l : List Int} (hl : Oct l) {m : Nat} {a s : Int} (n : Nat) (hn : n ≤ 100) (k : Nat) (hk : 120 < k) (h : Lf (m + 2 * n + 40) a) : ∃ (t : ByteArray) (a' s' : Int), spec_l1Cur_tree.f k l a s n = some (t, a', s') ∧ t.size ≤ 400 ∧ Lf m a' := by
  unfold spec_l1Cur_tree.f
  obtain ⟨r, a1, s1, e1, r0, r1, h1⟩ := pick_tot hl (m := m + 2 * n + 38) (a := a) (s := s) ((n : Int) + 1) (by omega) (by unfold Lf at *; omega)
  have r2 := r1 (by omega)
  obtain ⟨q, rfl⟩ : ∃ q : Nat, r = q := ⟨r.toNat, by omega⟩
  obtain ⟨T, a2, s2, e2, hT, h2⟩ := sureTree_tot hl (m := m + 38) (a := a1) (s := s1) q (by omega) k (by omega) (by unfold Lf at *; omega)
  obtain ⟨u, a3, s3, e3, u0, u1, h3⟩ := pick_tot hl (m := m + 36) (a := a2) (s := s2) 14 (by omega) (by unfold Lf at *; omega)
  have zT := tx_size T
  rw [w64 (by omega), e1]
  simp only [Option.bind_some]
  rw [e2]
  simp only [Option.bind_some]
  rw [e3]
  simp only [Option.bind_some]
  by_cases z0 : u = 0
  · obtain ⟨t', a', s', e4, ht', h4⟩ := spoilt_tot hl (m := m) (a := a3) (s := s3) (N.tx T) (⟨#[40, 46, 41]⟩ : ByteArray) (by decide) (by decide) (by omega) k (by omega) (by unfold Lf at *; omega)
    rw [if_pos z0, e4]
    exact ⟨t', a', s', rfl, by omega, h4⟩
  · rw [if_neg z0]
    by_cases z1 : u = 1
    · obtain ⟨b, a4, s4, e4, b0, b1, h4⟩ := pick_tot hl (m := m + 34) (a := a3) (s := s3) 2 (by omega) (by unfold Lf at *; omega)
      have b2 := b1 (by omega)
      obtain ⟨c, rfl⟩ : ∃ c : Nat, b = c := ⟨b.toNat, by omega⟩
      obtain ⟨T2, a5, s5, e5, hT2, h5⟩ := sureTree_tot hl (m := m) (a := a4) (s := s4) (8 + c) (by omega) k (by omega) (by unfold Lf at *; omega)
      rw [if_pos z1, e4]
      simp only [Option.bind_some]
      rw [w64 (by omega), show (8 : Int) + (c : Int) = ((8 + c : Nat) : Int) by omega, e5]
      have := tx_size T2
      try simp only [Option.bind_some]
      exact ⟨_, a5, s5, rfl, by omega, h5⟩
    · rw [if_neg z1]
      try simp only [Option.bind_some]
      exact ⟨_, a3, s3, rfl, by omega, h3.less (by omega)⟩
end Go.Proofs.YtgnepbogadfinaaDoor.PA
namespace Go.Proofs.YtgnepbogadfinaaDoor.PA
open Go.RowKit Go.Proofs.YtgnepbogadfinaaDoorW.PrintWords Go.Proofs.YtgnepbogadfinaaDoorW.PrintLast
theorem bt_S (l : List UInt8) (i : Nat) (h : i < l.length) : bt (N.S l) (i : Int) = ((l[i]).toNat : Int) := by
  have hs : ((i : Int)).toNat < (N.S l).size := by rw [N.S_size]; exact h
  rw [← bt_at (N.S l) i hs]
  rfl
theorem bits_l0 (l : List UInt8) (hl : l.length ≤ 1000000) : ∀ n j : Nat, n + j = l.length → Ev (fun k => spec_mpBits.l0 k (N.S l) (j : Int)) ((l.drop j).all fun c => c == 48 || c == 49)
  | 0, j, h => ⟨1, fun k hk => by
    obtain ⟨k, rfl⟩ : ∃ k', k = k' + 1 := ⟨k - 1, by omega⟩
    show spec_mpBits.l0 (k + 1) _ _ = _
    rw [spec_mpBits.l0, if_neg (by rw [N.S_size]; omega), List.drop_eq_nil_of_le (by omega)]; rfl⟩
  | n + 1, j, h => by
    obtain ⟨K, hK⟩ := bits_l0 l hl n (j + 1) (by omega)
    have hj : j < l.length := by omega
    rw [List.drop_eq_getElem_cons hj, List.all_cons]
    refine ⟨K + 1, fun k hk => ?_⟩
    obtain ⟨k, rfl⟩ : ∃ k', k = k' + 1 := ⟨k - 1, by omega⟩
    have e : spec_mpBits.l0 k (N.S l) ((j + 1 : Nat) : Int) = _ := hK k (by omega)
    show spec_mpBits.l0 (k + 1) _ _ = _
    rw [spec_mpBits.l0, if_pos (by rw [N.S_size]; omega), if_pos (by omega), bt_S l j hj, w64 (by omega), show ((j : Int) + 1) = ((j + 1 : Nat) : Int) by omega, e]
    generalize l[j] = c
    by_cases h1 : c = 48
    · subst h1; rw [if_pos (show (((48 : UInt8).toNat : Nat) : Int) = 48 from rfl)]; rfl
    · have n1 : ¬ ((c.toNat : Int) = 48) := fun h => h1 (UInt8.toNat_inj.1 (by show c.toNat = 48; omega))
      rw [if_neg n1]
      by_cases h2 : c = 49
      · subst h2; rw [if_pos (show (((49 : UInt8).toNat : Nat) : Int) = 49 from rfl)]; rfl
      · have n2 : ¬ ((c.toNat : Int) = 49) := fun h => h2 (UInt8.toNat_inj.1 (by show c.toNat = 49; omega))
        rw [if_neg n2]
        have b1 : (c == 48) = false := beq_eq_false_iff_ne.2 h1
        have b2 : (c == 49) = false := beq_eq_false_iff_ne.2 h2
        rw [b1, b2]; rfl
theorem bits_ev (s : ByteArray) : Ev (fun k => spec_mpBits.f k s) (N.adB s.toList) := by
  have es := N.S_of s
  generalize s.toList = l at es
  subst es
  by_cases h : l.length ≤ 10
  · obtain ⟨K, hK⟩ := bits_l0 l (by omega) l.length 0 (by omega)
    refine ⟨K, fun k hk => ?_⟩
    have e : spec_mpBits.l0 k (N.S l) 0 = _ := hK k hk
    show spec_mpBits.f k _ = _
    unfold spec_mpBits.f N.adB
    rw [if_neg (by rw [N.S_size]; omega), e, decide_eq_true h, Bool.true_and, List.drop_zero]
  · refine ⟨0, fun k hk => ?_⟩
    show spec_mpBits.f k _ = _
    unfold spec_mpBits.f N.adB
    rw [if_pos (by rw [N.S_size]; omega), decide_eq_false h, Bool.false_and]
theorem plN_plc (x : Nat × Nat) : plN (x.1 : Int) (x.2 : Int) = N.plc x := rfl
theorem frOk_of {n d : Int} (h : N.goodB n d = true) : ∃ x : Nat × Nat, N.FrOk x ∧ n = (x.1 : Int) ∧ d = (x.2 : Int) := by
  obtain ⟨m, k, e1, e2, _⟩ := N.goodB_true h
  refine ⟨(n.toNat, d.toNat), ?_, by simp only; omega, by simp only; omega⟩
  unfold N.FrOk
  simp only
  rw [show ((n.toNat : Nat) : Int) = n by omega, show ((d.toNat : Nat) : Int) = d by omega]
  exact h
theorem frF_adr {a : List UInt8} (hl : a.length ≤ 10) : ∃ x, N.frF (N.plA a) = some x ∧ N.FrOk x ∧ N.plc x = N.plA a := by
  have h1 := N.plA_lt (a := a) (by omega)
  have hd : (N.halve 40 (N.plA a) 1099511627776).2 ≤ 1024 := by
    have e := N.halve_gcd 40 (N.plA a)
    have : (N.halve 40 (N.plA a) (2 ^ 40)).2 = 2 ^ 40 / Nat.gcd (N.plA a) (2 ^ 40) := by rw [e]
    rw [show (1099511627776 : Nat) = 2 ^ 40 from rfl, this]
    have g : 2 ^ 30 ∣ Nat.gcd (N.plA a) (2 ^ 40) := Nat.dvd_gcd (Nat.dvd_of_mod_eq_zero (N.plA_gap hl)) (Nat.pow_dvd_pow 2 (by omega))
    have gp := Nat.gcd_pos_of_pos_right (N.plA a) (Nat.two_pow_pos 40)
    have gl := Nat.le_of_dvd gp g
    exact Nat.div_le_of_le_mul (by omega)
  have hf : N.frF (N.plA a) = some (N.halve 40 (N.plA a) 1099511627776) := by unfold N.frF; rw [if_pos hd]
  obtain ⟨f1, f2⟩ := N.frF_some (by omega) hf
  exact ⟨_, hf, f1, f2⟩
theorem fracOf_yes {s : ByteArray} (h : N.adB s.toList = true) : ∃ x : Nat × Nat, N.FrOk x ∧ N.plc x = N.plA s.toList ∧ impl_FractionOf.f s = some ((x.1 : Int), (x.2 : Int), true) := by
  obtain ⟨h1, h2⟩ := N.adB_bits h
  obtain ⟨x, e1, e2, e3⟩ := frF_adr h2
  have hz : s.toList.length = s.size := by rw [ByteArray.toList_eq]; rfl
  have hl := N.plA_lt (a := s.toList) (by omega)
  refine ⟨x, e2, e3, ?_⟩
  unfold impl_FractionOf.f impl_isAddress.f impl_placeOf.f impl_toldAt.f
  rw [Option.bind_some, if_pos h, if_pos (by omega), Option.bind_some, if_pos (by omega), Option.bind_some]
  rw [show (((N.plA s.toList : Nat) : Int)).toNat = N.plA s.toList from rfl, e1]
  rfl
theorem fracOf_no {s : ByteArray} (h : N.adB s.toList = false) : impl_FractionOf.f s = some (0, 0, false) := by
  unfold impl_FractionOf.f impl_isAddress.f
  rw [Option.bind_some, if_neg (by rw [h]; decide)]
theorem of_tot {l : List Int} (hl : Oct l) {m : Nat} {a s : Int} (xs : List ByteArray) (h0 : 0 < xs.length) (hn : xs.length ≤ 1000) (h : Lf (m + 2) a) : ∃ x a' s', spec_l1Cur_of.f l a s xs = some (x, a', s') ∧ x ∈ xs ∧ Lf m a' := by
  obtain ⟨r, a', s', e, r0, r1, hL⟩ := pick_tot hl (m := m) (a := a) (s := s) (xs.length : Int) (by omega) h
  have r1 := r1 (by omega)
  obtain ⟨q, rfl⟩ : ∃ q : Nat, r = q := ⟨r.toNat, by omega⟩
  have hq : q < xs.length := by omega
  refine ⟨xs[q], a', s', ?_, List.getElem_mem hq, hL⟩
  unfold spec_l1Cur_of.f
  rw [e, Option.bind_some]
  dsimp only
  rw [if_pos r0, if_pos r1]
  congr 2
  show xs.getD q _ = _
  rw [List.getD_eq_getElem?_getD, List.getElem?_eq_getElem hq]; rfl
end Go.Proofs.YtgnepbogadfinaaDoor.PA
namespace Go.Proofs.YtgnepbogadfinaaDoor.PA
open Go.RowKit Go.Proofs.YtgnepbogadfinaaDoorW.PrintWords Go.Proofs.YtgnepbogadfinaaDoorW.PrintLast
theorem ff_l0 (l : List S31) (hl : l.length ≤ 1000000000) : ∀ n j : Nat, n + j = l.length → Ev (fun k => laws_fFractions.l0 k l l (l.length : Int) (j : Int)) true
  | 0, j, h => ⟨1, fun k hk => by
    obtain ⟨k, rfl⟩ : ∃ k', k = k' + 1 := ⟨k - 1, by omega⟩
    show laws_fFractions.l0 (k + 1) _ _ _ _ = _
    rw [laws_fFractions.l0, if_neg (by omega)]⟩
  | n + 1, j, h => by
    obtain ⟨K, hK⟩ := ff_l0 l hl n (j + 1) (by omega)
    refine ⟨K + 1, fun k hk => ?_⟩
    obtain ⟨k, rfl⟩ : ∃ k', k = k' + 1 := ⟨k - 1, by omega⟩
    have e1 : laws_fFractions.l0 k l l (l.length : Int) ((j + 1 : Nat) : Int) = some true := hK k (by omega)
    show laws_fFractions.l0 (k + 1) _ _ _ _ = _
    rw [laws_fFractions.l0, if_pos (by omega), if_pos (by omega), if_pos (by omega), if_pos (by omega), if_neg (by simp), w64 (by omega)]
    rwa [show ((j + 1 : Nat) : Int) = (j : Int) + 1 by omega] at e1
theorem ff_ev (l : List S31) (hl : l.length ≤ 1000000000) : Ev (fun k => laws_fFractions.f k l l) true := by
  obtain ⟨K, hK⟩ := ff_l0 l hl l.length 0 (by omega)
  refine ⟨K, fun k hk => ?_⟩
  show laws_fFractions.f k l l = _
  unfold laws_fFractions.f
  rw [if_pos rfl]
  exact hK k hk
theorem rd_fr (l : List (Nat × Nat)) (j : Nat) : rd_T31 (frS l) (j : Int) = (fun x : Nat × Nat => (⟨(x.1 : Int), (x.2 : Int)⟩ : S31)) (l.getD j (0, 0)) := by
  show (l.map fun x : Nat × Nat => (⟨(x.1 : Int), (x.2 : Int)⟩ : S31)).getD j _ = _
  rw [List.getD_eq_getElem?_getD, List.getElem?_map, List.getD_eq_getElem?_getD]
  cases l[j]? <;> rfl
theorem less_at {x y : Nat × Nat} (hx : N.FrOk x) (hy : N.FrOk y) : laws_fLess.f (x.1 : Int) (x.2 : Int) (y.1 : Int) (y.2 : Int) = some (decide (x.1 * y.2 < y.1 * x.2)) := by
  obtain ⟨k, h1, h2, h3⟩ := hx.form
  obtain ⟨i, g1, g2, g3⟩ := hy.form
  have a1 := hx.small
  have a2 := hy.small
  have b1 := Nat.mul_le_mul (show x.1 ≤ 1024 by omega) a2
  have b2 := Nat.mul_le_mul (show y.1 ≤ 1024 by omega) a1
  unfold laws_fLess.f
  rw [← Int.natCast_mul, ← Int.natCast_mul, w64 (by omega), w64 (by omega)]
  congr 1
  rw [decide_eq_decide]
  omega
end Go.Proofs.YtgnepbogadfinaaDoor.PA
