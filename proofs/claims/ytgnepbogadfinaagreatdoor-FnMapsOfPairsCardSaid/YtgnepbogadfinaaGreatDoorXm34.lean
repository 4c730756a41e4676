import Derived.Test.YtgnepbogadfinaaGreatDoorXm21
import Derived.Test.YtgnepbogadfinaaGreatDoorXm31
import Derived.Test.YtgnepbogadfinaaGreatDoorXm33
/- A part of the proof: lemmas that later parts use. -/
set_option linter.unusedVariables false
set_option linter.unusedSimpArgs false
namespace Go.Proofs.YtgnepbogadfinaaGreatDoor.PA
open Go.RowKit Go.Proofs.YtgnepbogadfinaaGreatDoorW.PrintWords Go.Proofs.YtgnepbogadfinaaGreatDoorW.PrintLast Go.Proofs.YtgnepbogadfinaaGreatDoorW.PrintMore
attribute [local go_sem] max2_int min2_int max_two min_two max_three min_three max_four min_four
attribute [local go_sem high] eqA27
mutual
def laws_FnMapsOfPairs.j0 : Nat → List Int → List Int → Bool → Bool → ByteArray → ByteArray → Int → Int → Int → Int → Option (Bool)
  | 0, _, _, _, _, _, _, _, _, _, _ => none
  | k + 1, x0, x1, x8, x76, x332000, x332001, x333000, x333001, x337000, x337001 => if x76 = true then (some false) else (if x8 = true then ((impl_InversePair.f x332000 x332001).bind fun bt341 => ((impl_ValueOf.f bt341.1 bt341.2.1 x337000 x337001).bind fun bt345 => ((impl_ReducePair.f x332000 x332001).bind fun bt349 => ((impl_ValueOf.f bt349.1 bt349.2.1 x333000 x333001).bind fun bt353 => (if bt341.2.2 = true then (if bt345.2.2 = true then (if (!(bt345.1 == x333000) || (!(bt345.2.1 == x333001))) = true then (some false) else (if bt349.2.2 = true then (if bt353.2.2 = true then (if (!(bt353.1 == x337000) || (!(bt353.2.1 == x337001))) = true then (some false) else (if ((x333000 == 0) != (x337000 == 0)) = true then (some false) else (if ((x333000 == x333001) != (x337000 == x337001)) = true then (some false) else (laws_FnMapsOfPairs.j1 k x0 x1)))) else (some false)) else (some false))) else (some false)) else (some false)))))) else (laws_FnMapsOfPairs.j1 k x0 x1))
def laws_FnMapsOfPairs.j1 : Nat → List Int → List Int → Option (Bool)
  | 0, _, _ => none
  | k + 1, x0, x1 => (spec_DrawProductPair.f k x1).bind fun bt357 => ((impl_ProductPair.f bt357.1 bt357.2.1 bt357.2.2.1 bt357.2.2.2).bind fun bt363 => (if bt363.2.2 = true then (laws_FnMapsOfPairs.l0 k x0 x1 1 bt357.1 bt357.2.1 bt357.2.2.1 bt357.2.2.2 bt363.1 bt363.2.1) else (laws_FnMapsOfPairs.j3 k x0 x1)))
def laws_FnMapsOfPairs.j3 : Nat → List Int → List Int → Option (Bool)
  | 0, _, _ => none
  | k + 1, x0, x1 => (spec_DrawImageOfAddress.f k x1).bind fun bt380 => ((impl_ImageOfAddress.f bt380.1 bt380.2.1 bt380.2.2).bind fun bt384 => ((spec_ImageOfAddress.f k bt380.1 bt380.2.1 bt380.2.2).bind fun bt386 => (if (bt384.2 != bt386.2) = true then (laws_FnMapsOfPairs.j4 k x0 bt380.2.2 bt384.1 bt384.2 true bt380.1 bt380.2.1) else (laws_FnMapsOfPairs.j4 k x0 bt380.2.2 bt384.1 bt384.2 (bt384.1.toList != bt386.1.toList) bt380.1 bt380.2.1))))
def laws_FnMapsOfPairs.j4 : Nat → List Int → ByteArray → ByteArray → Bool → Bool → ByteArray → ByteArray → Option (Bool)
  | 0, _, _, _, _, _, _, _ => none
  | k + 1, x0, x32, x33, x34, x219, x384000, x384001 => if x219 = true then (some false) else (if x34 = true then ((impl_FractionOf.f x32).bind fun bt388 => ((impl_FractionOf.f x33).bind fun bt392 => ((impl_ValueOf.f x384000 x384001 bt388.1 bt388.2.1).bind fun bt396 => (if bt388.2.2 = true then (if bt392.2.2 = true then (if bt396.2.2 = true then (laws_FnMapsOfPairs.j5 k x0 (!(bt396.1 == bt392.1) || (!(bt396.2.1 == bt392.2.1)))) else (laws_FnMapsOfPairs.j5 k x0 true)) else (laws_FnMapsOfPairs.j5 k x0 true)) else (laws_FnMapsOfPairs.j5 k x0 true))))) else ((spec_DrawHalfOf.f k x0).bind fun bt414 => ((impl_HalfOf.f k bt414.1 bt414.2.1 bt414.2.2.1 bt414.2.2.2).bind fun bt420 => ((spec_HalfOf.f k bt414.1 bt414.2.1 bt414.2.2.1 bt414.2.2.2).bind fun bt424 => (if (bt420.2.2 == bt424.2.2) = true then (some (bt420.1 == bt424.1 && (bt420.2.1 == bt424.2.1))) else (some false))))))
def laws_FnMapsOfPairs.j5 : Nat → List Int → Bool → Option (Bool)
  | 0, _, _ => none
  | k + 1, x0, x251 => if x251 = true then (some false) else ((spec_DrawHalfOf.f k x0).bind fun bt400 => ((impl_HalfOf.f k bt400.1 bt400.2.1 bt400.2.2.1 bt400.2.2.2).bind fun bt406 => ((spec_HalfOf.f k bt400.1 bt400.2.1 bt400.2.2.1 bt400.2.2.2).bind fun bt410 => (if (bt406.2.2 == bt410.2.2) = true then (some (bt406.1 == bt410.1 && (bt406.2.1 == bt410.2.1))) else (some false)))))
def laws_FnMapsOfPairs.l0 : Nat → List Int → List Int → Int → ByteArray → ByteArray → ByteArray → ByteArray → ByteArray → ByteArray → Option (Bool)
  | 0, _, _, _, _, _, _, _, _, _ => none
  | k + 1, x0, x1, x23, x362000, x362001, x363000, x363001, x367000, x367001 => if x23 < 16 then ((impl_ValueOf.f x362000 x362001 x23 16).bind fun bt368 => ((impl_ValueOf.f x363000 x363001 bt368.1 bt368.2.1).bind fun bt372 => ((impl_ValueOf.f x367000 x367001 x23 16).bind fun bt376 => (if bt368.2.2 = true then (if bt372.2.2 = true then (if bt376.2.2 = true then (if (!(bt372.1 == bt376.1) || (!(bt372.2.1 == bt376.2.1))) = true then (some false) else (laws_FnMapsOfPairs.l0 k x0 x1 (wrap64 (x23 + 2)) x362000 x362001 x363000 x363001 x367000 x367001)) else (some false)) else (laws_FnMapsOfPairs.l0 k x0 x1 (wrap64 (x23 + 2)) x362000 x362001 x363000 x363001 x367000 x367001)) else (laws_FnMapsOfPairs.l0 k x0 x1 (wrap64 (x23 + 2)) x362000 x362001 x363000 x363001 x367000 x367001))))) else (laws_FnMapsOfPairs.j3 k x0 x1)
end
def laws_FnMapsOfPairs.f (k : Nat) (l0 : List Int) (l1 : List Int) : Option (Bool) := (laws_big.f l0 l1).bind fun t326 => (if t326 = true then (some true) else ((spec_DrawValueOf.f k l0).bind fun bt327 => ((impl_ValueOf.f bt327.1 bt327.2.1 bt327.2.2.1 bt327.2.2.2).bind fun bt333 => ((spec_ValueOf.f bt327.1 bt327.2.1 bt327.2.2.1 bt327.2.2.2).bind fun bt337 => (if (bt333.2.2 != bt337.2.2) = true then (laws_FnMapsOfPairs.j0 k l0 l1 bt333.2.2 true bt327.1 bt327.2.1 bt327.2.2.1 bt327.2.2.2 bt333.1 bt333.2.1) else (laws_FnMapsOfPairs.j0 k l0 l1 bt333.2.2 (!(bt333.1 == bt337.1) || (!(bt333.2.1 == bt337.2.1))) bt327.1 bt327.2.1 bt327.2.2.1 bt327.2.2.2 bt333.1 bt333.2.1))))))
set_option maxHeartbeats 8000000 in
set_option maxRecDepth 100000 in
theorem laws_FnMapsOfPairs.calls (k : Nat) (A0 : Option Addr) (c0 : Nat) (l0 : List Int) (A1 : Option Addr) (c1 : Nat) (l1 : List Int) (r : Bool) (w : World) (hr0 : Kd.C (Kd.int .u8) w A0 l0.length l0) (hc0 : l0.length ≤ c0) (hr1 : Kd.C (Kd.int .u8) w A1 l1.length l1) (hc1 : l1.length ≤ c1) (h : laws_FnMapsOfPairs.f k l0 l1 = some r) (HRT : Aside0 (r = true)) :
    Calls Tryz.prog 3 #[.slice A0 l0.length c0, .slice A1 l1.length c1] w fun e w' => e = .returned (.bool r) ∧ Below w.heap.size w w' := by
  have hu25 := Tryz.underlying25
  have hu27 := Tryz.underlying27
  have HR0 := Aside0.mk hr0
  have HC0 := Aside0.mk hc0
  clear hr0 hc0
  have HR1 := Aside0.mk hr1
  have HC1 := Aside0.mk hc1
  clear hr1 hc1
  have HB := Aside0.mk (Below.refl w.heap.size w)
  have H : ((laws_big.f l0 l1).bind fun t326 => (if t326 = true then (some true) else ((spec_DrawValueOf.f k l0).bind fun bt327 => ((impl_ValueOf.f bt327.1 bt327.2.1 bt327.2.2.1 bt327.2.2.2).bind fun bt333 => ((spec_ValueOf.f bt327.1 bt327.2.1 bt327.2.2.1 bt327.2.2.2).bind fun bt337 => (if (bt333.2.2 != bt337.2.2) = true then (laws_FnMapsOfPairs.j0 k l0 l1 bt333.2.2 true bt327.1 bt327.2.1 bt327.2.2.1 bt327.2.2.2 bt333.1 bt333.2.1) else (laws_FnMapsOfPairs.j0 k l0 l1 bt333.2.2 (!(bt333.1 == bt337.1) || (!(bt333.2.1 == bt337.2.1))) bt327.1 bt327.2.1 bt327.2.2.1 bt327.2.2.2 bt333.1 bt333.2.1))))))) = some r := h
  clear h
  replace H := Option.bind_eq_some_iff.mp H
  obtain ⟨t326, A30, H⟩ := H
  (try dsimp only at H)
  have A3 := Aside0.mk A30
  clear A30
  by_cases c4 : t326 = true
  · subst c4
    rw [if_pos rfl] at H
    obtain rfl := Option.some.inj H
    go_enter Tryz.func3, Tryz.ntmps3
    go_wp2_with (first | ((with_reducible refine gate_callee (f := 4) rfl ?_); refine goesL_ (some 51) rfl rfl Tryz.func4 (by kernel_rfl) rfl #[.slice A0 l0.length c0, .slice A1 l1.length c1] rfl lm ?_; (with_reducible refine (laws_big.calls _ _ l0 _ _ l1 true _ ?side1 ?side2 ?side3 ?side4 A3.out).mono ?_); (case side1 => repeat (first | exact HR0.out | (with_reducible refine Kd.C_alloc ?_ _) | (with_reducible refine Kd.C_drewN ?_ _) | (with_reducible refine Kd.C_drew ?_))); (case side2 => exact HC0.out); (case side3 => repeat (first | exact HR1.out | (with_reducible refine Kd.C_alloc ?_ _) | (with_reducible refine Kd.C_drewN ?_ _) | (with_reducible refine Kd.C_drew ?_))); (case side4 => exact HC1.out); rintro e w' ⟨rfl, ⟨nd, rfl⟩⟩; refine ⟨_, rfl, ?_⟩))
    go_ret
    exact ⟨by first | rfl | (simp [errW_none, errW_some] <;> rfl) | (simp [*, errW_none, errW_some] <;> rfl), by exact lB HB.out⟩
  replace c4 := Bool.eq_false_iff.mpr c4
  subst c4
  rw [if_neg (show ¬ (false = true) by decide)] at H
  replace H := Option.bind_eq_some_iff.mp H
  obtain ⟨⟨t327, t328, t329, t330⟩, A50, H⟩ := H
  (try dsimp only at H)
  have A5 := Aside0.mk A50
  clear A50
  replace H := Option.bind_eq_some_iff.mp H
  obtain ⟨⟨t333, t334, t335⟩, A60, H⟩ := H
  (try dsimp only at H)
  have A6 := Aside0.mk A60
  clear A60
  replace H := Option.bind_eq_some_iff.mp H
  obtain ⟨⟨t337, t338, t339⟩, A70, H⟩ := H
  (try dsimp only at H)
  have A7 := Aside0.mk A70
  clear A70
  have HC8 := Aside0.mk H
  clear H
  go_enter Tryz.func3, Tryz.ntmps3
  go_upto_region 6 with (first | ((with_reducible refine gate_callee (f := 4) rfl ?_); refine goesL_ (some 51) rfl rfl Tryz.func4 (by kernel_rfl) rfl #[.slice A0 l0.length c0, .slice A1 l1.length c1] rfl lm ?_; (with_reducible refine (laws_big.calls _ _ l0 _ _ l1 false _ ?side1 ?side2 ?side3 ?side4 A3.out).mono ?_); (case side1 => repeat (first | exact HR0.out | (with_reducible refine Kd.C_alloc ?_ _) | (with_reducible refine Kd.C_drewN ?_ _) | (with_reducible refine Kd.C_drew ?_))); (case side2 => exact HC0.out); (case side3 => repeat (first | exact HR1.out | (with_reducible refine Kd.C_alloc ?_ _) | (with_reducible refine Kd.C_drewN ?_ _) | (with_reducible refine Kd.C_drew ?_))); (case side4 => exact HC1.out); rintro e w' ⟨rfl, ⟨nd, rfl⟩⟩; refine ⟨_, rfl, ?_⟩) | ((with_reducible refine gate_callee (f := 5) rfl ?_); refine goesL_ (some 54) rfl rfl Tryz.func5 (by kernel_rfl) rfl #[.slice A0 l0.length c0] rfl lm ?_; (with_reducible refine (spec_DrawValueOf.calls k _ _ l0 t327 t328 t329 t330 _ ?side1 ?side2 A5.out).mono ?_); (case side1 => repeat (first | exact HR0.out | (with_reducible refine Kd.C_alloc ?_ _) | (with_reducible refine Kd.C_drewN ?_ _) | (with_reducible refine Kd.C_drew ?_))); (case side2 => exact HC0.out); rintro e w9 ⟨rfl, hb⟩; refine ⟨_, rfl, ?_⟩; have n0_ := Aside0.mk (below_step (lB HB.out) hb); clear HB; have HB := n0_; clear n0_; (try clear hb); (try clear hb2); (try clear hk); (try clear hi)) | ((with_reducible refine gate_dst (N := 5) rfl ?_); refine box_event ?hg (N := 5) ?hd (cs := #[.string (⟨#[]⟩ : ByteArray), .string (⟨#[]⟩ : ByteArray)]) (t := 25) ?hr ?_; (case hd => rfl); (case hg => rfl); (case hr => exact lr); intro gb331 hg w10 hbox hb; have n0_ := Aside0.mk (below_step (lB HB.out) hb); have n1_ := Aside0.mk (hbox); have n2_ := gw hg (lB HB.out); have n3_ := gw hg (lB HB.out); clear HB; have HB := n0_; have BK331 := n1_; have GW331 := n2_; have GE331 := n3_; clear n0_ n1_ n2_ n3_; clear hb hbox hg) | ((with_reducible refine gate_dst (N := 6) rfl ?_); refine box_event ?hg (N := 6) ?hd (cs := #[.int .i64 0, .int .i64 0]) (t := 27) ?hr ?_; (case hd => rfl); (case hg => rfl); (case hr => exact lr); intro gb332 hg w11 hbox hb; have n0_ := Aside0.mk (blk_below (lb BK331.out) hb); have n1_ := Aside0.mk (below_step (lB HB.out) hb); have n2_ := Aside0.mk (hbox); have n3_ := gw hg (lB HB.out); have n4_ := gw hg (lB HB.out); have n5_ := na hg (lb BK331.out); have n6_ := nz hg (lb BK331.out); clear BK331 HB; have BK331 := n0_; have HB := n1_; have BK332 := n2_; have GW332 := n3_; have GE332 := n4_; have NB331_332 := n5_; have NB332_331 := n6_; clear n0_ n1_ n2_ n3_ n4_ n5_ n6_; clear hb hbox hg; have hnb12 := NB331_332.out; have hnc12 := NB332_331.out; have hcz13_0 : w11.cell? ⟨gb331, 0, none⟩ = some (.string (⟨#[]⟩ : ByteArray)) := (blk_cell BK331.out 0).trans rfl; have hcz13_1 : w11.cell? ⟨gb331, 1, none⟩ = some (.string (⟨#[]⟩ : ByteArray)) := (blk_cell BK331.out 1).trans rfl; have hfz13_0 := blk_frozen BK331.out 0; have hfz13_1 := blk_frozen BK331.out 1; have hcz14_0 : w11.cell? ⟨gb332, 0, none⟩ = some (.int .i64 0) := (blk_cell BK332.out 0).trans rfl; have hcz14_1 : w11.cell? ⟨gb332, 1, none⟩ = some (.int .i64 0) := (blk_cell BK332.out 1).trans rfl; have hfz14_0 := blk_frozen BK332.out 0; have hfz14_1 := blk_frozen BK332.out 1) | ((with_reducible refine gate_callee (f := 6) rfl ?_); refine goesL_ (some 60) rfl rfl Tryz.func6 (by kernel_rfl) rfl #[.agg #[.string t327, .string t328], .agg #[.int .i64 t329, .int .i64 t330]] rfl lm ?_; (with_reducible refine (impl_ValueOf.calls t327 t328 t329 t330 t333 t334 t335 _ A6.out).mono ?_); rintro e w15 ⟨rfl, hb⟩; refine ⟨_, rfl, ?_⟩; have n0_ := Aside0.mk (blk_below (g := gb331) (o := .cells #[.string t327, .string t328] 25 (0, 0)) (by (with_reducible repeat (first | refine blk_drewN ?_ _ | refine blk_drew ?_ | refine blk_alloc ?_ _)); refine blk_far ?_ NB331_332.out _; (with_reducible repeat (first | refine blk_drewN ?_ _ | refine blk_drew ?_ | refine blk_alloc ?_ _)); refine blk_far ?_ NB331_332.out _; (with_reducible repeat (first | refine blk_drewN ?_ _ | refine blk_drew ?_ | refine blk_alloc ?_ _)); refine blk_put (cs := #[.string t327, .string (⟨#[]⟩ : ByteArray)]) ?_ 1 _ rfl; (with_reducible repeat (first | refine blk_drewN ?_ _ | refine blk_drew ?_ | refine blk_alloc ?_ _)); refine blk_put (cs := #[.string (⟨#[]⟩ : ByteArray), .string (⟨#[]⟩ : ByteArray)]) ?_ 0 _ rfl; exact lb BK331.out) hb); have n1_ := Aside0.mk (blk_below (g := gb332) (o := .cells #[.int .i64 t329, .int .i64 t330] 27 (0, 0)) (by (with_reducible repeat (first | refine blk_drewN ?_ _ | refine blk_drew ?_ | refine blk_alloc ?_ _)); refine blk_put (cs := #[.int .i64 t329, .int .i64 0]) ?_ 1 _ rfl; (with_reducible repeat (first | refine blk_drewN ?_ _ | refine blk_drew ?_ | refine blk_alloc ?_ _)); refine blk_put (cs := #[.int .i64 0, .int .i64 0]) ?_ 0 _ rfl; (with_reducible repeat (first | refine blk_drewN ?_ _ | refine blk_drew ?_ | refine blk_alloc ?_ _)); refine blk_far ?_ NB332_331.out _; (with_reducible repeat (first | refine blk_drewN ?_ _ | refine blk_drew ?_ | refine blk_alloc ?_ _)); refine blk_far ?_ NB332_331.out _; exact lb BK332.out) hb); have n2_ := Aside0.mk (below_step (lB HB.out) hb); clear BK331 BK332 HB; have BK331 := n0_; have BK332 := n1_; have HB := n2_; clear n0_ n1_ n2_; (try clear hb); (try clear hb2); (try clear hk); (try clear hi)) | ((with_reducible refine gate_dst (N := 7) rfl ?_); refine box_event ?hg (N := 7) ?hd (cs := #[.int .i64 0, .int .i64 0]) (t := 27) ?hr ?_; (case hd => rfl); (case hg => rfl); (case hr => exact lr); intro gb336 hg w16 hbox hb; have n0_ := Aside0.mk (blk_below (lb BK331.out) hb); have n1_ := Aside0.mk (blk_below (lb BK332.out) hb); have n2_ := Aside0.mk (below_step (lB HB.out) hb); have n3_ := Aside0.mk (hbox); have n4_ := gw hg (lB HB.out); have n5_ := gw hg (lB HB.out); have n6_ := na hg (lb BK331.out); have n7_ := nz hg (lb BK331.out); have n8_ := na hg (lb BK332.out); have n9_ := nz hg (lb BK332.out); clear BK331 BK332 HB; have BK331 := n0_; have BK332 := n1_; have HB := n2_; have BK336 := n3_; have GW336 := n4_; have GE336 := n5_; have NB331_336 := n6_; have NB336_331 := n7_; have NB332_336 := n8_; have NB336_332 := n9_; clear n0_ n1_ n2_ n3_ n4_ n5_ n6_ n7_ n8_ n9_; clear hb hbox hg; have hnb17 := NB336_331.out; have hnc17 := NB331_336.out; have hnb18 := NB336_332.out; have hnc18 := NB332_336.out; have hcz19_0 : w16.cell? ⟨gb336, 0, none⟩ = some (.int .i64 0) := (blk_cell BK336.out 0).trans rfl; have hcz19_1 : w16.cell? ⟨gb336, 1, none⟩ = some (.int .i64 0) := (blk_cell BK336.out 1).trans rfl; have hfz19_0 := blk_frozen BK336.out 0; have hfz19_1 := blk_frozen BK336.out 1; have hcz20_0 : w16.cell? ⟨gb331, 0, none⟩ = some (.string t327) := (blk_cell BK331.out 0).trans rfl; have hcz20_1 : w16.cell? ⟨gb331, 1, none⟩ = some (.string t328) := (blk_cell BK331.out 1).trans rfl; have hfz20_0 := blk_frozen BK331.out 0; have hfz20_1 := blk_frozen BK331.out 1; have hcz21_0 : w16.cell? ⟨gb332, 0, none⟩ = some (.int .i64 t329) := (blk_cell BK332.out 0).trans rfl; have hcz21_1 : w16.cell? ⟨gb332, 1, none⟩ = some (.int .i64 t330) := (blk_cell BK332.out 1).trans rfl; have hfz21_0 := blk_frozen BK332.out 0; have hfz21_1 := blk_frozen BK332.out 1) | ((with_reducible refine gate_callee (f := 7) rfl ?_); refine goesL_ (some 66) rfl rfl Tryz.func7 (by kernel_rfl) rfl #[.agg #[.string t327, .string t328], .agg #[.int .i64 t329, .int .i64 t330]] rfl lm ?_; (with_reducible refine (spec_ValueOf.calls t327 t328 t329 t330 t337 t338 t339 _ A7.out).mono ?_); rintro e w22 ⟨rfl, hb⟩; refine ⟨_, rfl, ?_⟩; have n0_ := Aside0.mk (blk_below (g := gb331) (o := .cells #[.string t327, .string t328] 25 (0, 0)) (by (with_reducible repeat (first | refine blk_drewN ?_ _ | refine blk_drew ?_ | refine blk_alloc ?_ _)); refine blk_far ?_ NB331_336.out _; (with_reducible repeat (first | refine blk_drewN ?_ _ | refine blk_drew ?_ | refine blk_alloc ?_ _)); refine blk_far ?_ NB331_336.out _; exact lb BK331.out) hb); have n1_ := Aside0.mk (blk_below (g := gb332) (o := .cells #[.int .i64 t329, .int .i64 t330] 27 (0, 0)) (by (with_reducible repeat (first | refine blk_drewN ?_ _ | refine blk_drew ?_ | refine blk_alloc ?_ _)); refine blk_far ?_ NB332_336.out _; (with_reducible repeat (first | refine blk_drewN ?_ _ | refine blk_drew ?_ | refine blk_alloc ?_ _)); refine blk_far ?_ NB332_336.out _; exact lb BK332.out) hb); have n2_ := Aside0.mk (blk_below (g := gb336) (o := .cells #[.int .i64 t333, .int .i64 t334] 27 (0, 0)) (by (with_reducible repeat (first | refine blk_drewN ?_ _ | refine blk_drew ?_ | refine blk_alloc ?_ _)); refine blk_put (cs := #[.int .i64 t333, .int .i64 0]) ?_ 1 _ rfl; (with_reducible repeat (first | refine blk_drewN ?_ _ | refine blk_drew ?_ | refine blk_alloc ?_ _)); refine blk_put (cs := #[.int .i64 0, .int .i64 0]) ?_ 0 _ rfl; exact lb BK336.out) hb); have n3_ := Aside0.mk (below_step (lB HB.out) hb); clear BK331 BK332 BK336 HB; have BK331 := n0_; have BK332 := n1_; have BK336 := n2_; have HB := n3_; clear n0_ n1_ n2_ n3_; (try clear hb); (try clear hb2); (try clear hk); (try clear hi)) | ((with_reducible refine gate_dst (N := 9) rfl ?_); refine box_event ?hg (N := 9) ?hd (cs := #[.int .i64 0, .int .i64 0]) (t := 27) ?hr ?_; (case hd => rfl); (case hg => rfl); (case hr => exact lr); intro gb340 hg w23 hbox hb; have n0_ := Aside0.mk (blk_below (lb BK331.out) hb); have n1_ := Aside0.mk (blk_below (lb BK332.out) hb); have n2_ := Aside0.mk (blk_below (lb BK336.out) hb); have n3_ := Aside0.mk (below_step (lB HB.out) hb); have n4_ := Aside0.mk (hbox); have n5_ := gw hg (lB HB.out); have n6_ := gw hg (lB HB.out); have n7_ := na hg (lb BK331.out); have n8_ := nz hg (lb BK331.out); have n9_ := na hg (lb BK332.out); have n10_ := nz hg (lb BK332.out); have n11_ := na hg (lb BK336.out); have n12_ := nz hg (lb BK336.out); clear BK331 BK332 BK336 HB; have BK331 := n0_; have BK332 := n1_; have BK336 := n2_; have HB := n3_; have BK340 := n4_; have GW340 := n5_; have GE340 := n6_; have NB331_340 := n7_; have NB340_331 := n8_; have NB332_340 := n9_; have NB340_332 := n10_; have NB336_340 := n11_; have NB340_336 := n12_; clear n0_ n1_ n2_ n3_ n4_ n5_ n6_ n7_ n8_ n9_ n10_ n11_ n12_; clear hb hbox hg; have hnb24 := NB340_331.out; have hnc24 := NB331_340.out; have hnb25 := NB340_332.out; have hnc25 := NB332_340.out; have hnb26 := NB340_336.out; have hnc26 := NB336_340.out; have hcz27_0 : w23.cell? ⟨gb340, 0, none⟩ = some (.int .i64 0) := (blk_cell BK340.out 0).trans rfl; have hcz27_1 : w23.cell? ⟨gb340, 1, none⟩ = some (.int .i64 0) := (blk_cell BK340.out 1).trans rfl; have hfz27_0 := blk_frozen BK340.out 0; have hfz27_1 := blk_frozen BK340.out 1))
  (try simp only [Act.put, List.setIfInBounds_toArray, List.set_cons_zero, List.set_cons_succ])
  go_cut [76] (fun v76 wc => ∃ (kq : Nat) (x76_7 : Bool), v76 = .bool x76_7 ∧ Aside0 (laws_FnMapsOfPairs.j0 kq l0 l1 t335 x76_7 t327 t328 t329 t330 t333 t334 = some r) ∧ Aside0 (kq ≤ k) ∧ Aside0 (wc.heap[gb331]? = some (.cells #[.string t327, .string t328] 25 (0, 0))) ∧ Aside0 (wc.heap[gb332]? = some (.cells #[.int .i64 t329, .int .i64 t330] 27 (0, 0))) ∧ Aside0 (wc.heap[gb336]? = some (.cells #[.int .i64 t333, .int .i64 t334] 27 (0, 0))) ∧ Aside0 (Below w.heap.size w wc))
  case first =>
   as_aux_lemma =>
   have H := HC8.out
   clear HC8
   by_cases c28 : (t335 != t339) = true
   · rw [if_pos c28] at H
     have c28b0 : (t335 != t339) = true := c28
     (try (have c28b1 : decide (t335 = t339) = false := by simpa using c28))
     (try (have c28b2 : (t335 == t339) = false := by simpa using c28))
     (try (have c28b3 : ¬ (t335 = t339) := by simpa using c28))
     clear c28
     (first | rw [c28b0] | (simp only [i64_w, i32_w]; rw [c28b0]) | skip)
     have H' := Aside0.mk H
     clear H
     go_wp2
     go_meet
     case rel => exact ⟨_, (true), (by first | rfl | (simp; done) | (simp [*]; done)), H', ⟨by first | omega | exact Nat.le_refl _⟩, ⟨by (with_reducible repeat (first | refine blk_drewN ?_ _ | refine blk_drew ?_ | refine blk_alloc ?_ _)); refine blk_far ?_ NB331_340.out _; (with_reducible repeat (first | refine blk_drewN ?_ _ | refine blk_drew ?_ | refine blk_alloc ?_ _)); refine blk_far ?_ NB331_340.out _; exact lb BK331.out⟩, ⟨by (with_reducible repeat (first | refine blk_drewN ?_ _ | refine blk_drew ?_ | refine blk_alloc ?_ _)); refine blk_far ?_ NB332_340.out _; (with_reducible repeat (first | refine blk_drewN ?_ _ | refine blk_drew ?_ | refine blk_alloc ?_ _)); refine blk_far ?_ NB332_340.out _; exact lb BK332.out⟩, ⟨by (with_reducible repeat (first | refine blk_drewN ?_ _ | refine blk_drew ?_ | refine blk_alloc ?_ _)); refine blk_far ?_ NB336_340.out _; (with_reducible repeat (first | refine blk_drewN ?_ _ | refine blk_drew ?_ | refine blk_alloc ?_ _)); refine blk_far ?_ NB336_340.out _; exact lb BK336.out⟩, ⟨by exact lB HB.out⟩⟩
   rw [if_neg c28] at H
   have c28b0 : (t335 != t339) = false := by simpa using c28
   (try (have c28b1 : decide (t335 = t339) = true := by simpa using c28))
   (try (have c28b2 : (t335 == t339) = true := by simpa using c28))
   clear c28
   (first | rw [c28b0] | (simp only [i64_w, i32_w]; rw [c28b0]) | skip)
   have H' := Aside0.mk H
   clear H
   have hnb29 := NB336_331.out
   have hnc29 := NB331_336.out
   have hnb30 := NB336_332.out
   have hnc30 := NB332_336.out
   have hnb31 := NB336_340.out
   have hnc31 := NB340_336.out
   have hcz32_0 : w23.cell? ⟨gb336, 0, none⟩ = some (.int .i64 t333) := (blk_cell BK336.out 0).trans rfl
   have hcz32_1 : w23.cell? ⟨gb336, 1, none⟩ = some (.int .i64 t334) := (blk_cell BK336.out 1).trans rfl
   have hfz32_0 := blk_frozen BK336.out 0
   have hfz32_1 := blk_frozen BK336.out 1
   have hnb33 := NB340_331.out
   have hnc33 := NB331_340.out
   have hnb34 := NB340_332.out
   have hnc34 := NB332_340.out
   have hcz35_0 : w23.cell? ⟨gb340, 0, none⟩ = some (.int .i64 0) := (blk_cell BK340.out 0).trans rfl
   have hcz35_1 : w23.cell? ⟨gb340, 1, none⟩ = some (.int .i64 0) := (blk_cell BK340.out 1).trans rfl
   have hfz35_0 := blk_frozen BK340.out 0
   have hfz35_1 := blk_frozen BK340.out 1
   go_wp2
   go_meet
   case rel => exact ⟨_, ((!(t333 == t337) || (!(t334 == t338)))), (by first | rfl | (simp; done) | (simp [*]; done)), H', ⟨by first | omega | exact Nat.le_refl _⟩, ⟨by (with_reducible repeat (first | refine blk_drewN ?_ _ | refine blk_drew ?_ | refine blk_alloc ?_ _)); refine blk_far ?_ NB331_340.out _; (with_reducible repeat (first | refine blk_drewN ?_ _ | refine blk_drew ?_ | refine blk_alloc ?_ _)); refine blk_far ?_ NB331_340.out _; exact lb BK331.out⟩, ⟨by (with_reducible repeat (first | refine blk_drewN ?_ _ | refine blk_drew ?_ | refine blk_alloc ?_ _)); refine blk_far ?_ NB332_340.out _; (with_reducible repeat (first | refine blk_drewN ?_ _ | refine blk_drew ?_ | refine blk_alloc ?_ _)); refine blk_far ?_ NB332_340.out _; exact lb BK332.out⟩, ⟨by (with_reducible repeat (first | refine blk_drewN ?_ _ | refine blk_drew ?_ | refine blk_alloc ?_ _)); refine blk_far ?_ NB336_340.out _; (with_reducible repeat (first | refine blk_drewN ?_ _ | refine blk_drew ?_ | refine blk_alloc ?_ _)); refine blk_far ?_ NB336_340.out _; exact lb BK336.out⟩, ⟨by exact lB HB.out⟩⟩
  case rest =>
  as_aux_lemma =>
  clear HC8
  (try clear c1); (try clear c4); (try clear hcz13_0); (try clear hcz13_1); (try clear hcz14_0); (try clear hcz14_1); (try clear hcz19_0); (try clear hcz19_1); (try clear hcz20_0); (try clear hcz20_1); (try clear hcz21_0); (try clear hcz21_1); (try clear hcz27_0); (try clear hcz27_1); (try clear hfz13_0)
  (try clear hfz13_1); (try clear hfz14_0); (try clear hfz14_1); (try clear hfz19_0); (try clear hfz19_1); (try clear hfz20_0); (try clear hfz20_1); (try clear hfz21_0); (try clear hfz21_1); (try clear hfz27_0); (try clear hfz27_1)
  obtain ⟨kq, x76_7, rfl, HA, HJ7, BK331, BK332, BK336, HB⟩ := hcut
  cases kq with
  | zero => exact absurd HA.out (by simp [laws_FnMapsOfPairs.j0])
  | succ kj7 =>
   have H := HA.out
   clear HA
   simp only [laws_FnMapsOfPairs.j0] at H
   by_cases c36 : x76_7 = true
   · subst c36
     rw [if_pos rfl] at H
     exact absurd ((Option.some.inj H).trans HRT.out) (by decide)
   replace c36 := Bool.eq_false_iff.mpr c36
   subst c36
   rw [if_neg (show ¬ (false = true) by decide)] at H
   have HC37 := Aside0.mk H
   clear H
   go_upto_if 77 with (fail)
   go_cut [] (fun wc => ∃ (kq : Nat), Aside0 (laws_FnMapsOfPairs.j1 kq l0 l1 = some r) ∧ Aside0 (kq ≤ kj7) ∧ Aside0 (Below w.heap.size w wc))
   case first =>
    as_aux_lemma =>
    have H := HC37.out
    clear HC37
    by_cases c38 : t335 = true
    rotate_left
    · replace c38 := Bool.eq_false_iff.mpr c38
      subst c38
      rw [if_neg (show ¬ (false = true) by decide)] at H
      have H' := Aside0.mk H
      clear H
      go_wp2
      go_meet
      case rel => exact ⟨_, H', ⟨by have := HJ7.out; first | omega | exact Nat.le_refl _⟩, ⟨by exact lB HB.out⟩⟩
    subst c38
    rw [if_pos rfl] at H
    replace H := Option.bind_eq_some_iff.mp H
    obtain ⟨⟨t341, t342, t343⟩, A390, H⟩ := H
    (try dsimp only at H)
    have A39 := Aside0.mk A390
    clear A390
    replace H := Option.bind_eq_some_iff.mp H
    obtain ⟨⟨t345, t346, t347⟩, A400, H⟩ := H
    (try dsimp only at H)
    have A40 := Aside0.mk A400
    clear A400
    replace H := Option.bind_eq_some_iff.mp H
    obtain ⟨⟨t349, t350, t351⟩, A410, H⟩ := H
    (try dsimp only at H)
    have A41 := Aside0.mk A410
    clear A410
    replace H := Option.bind_eq_some_iff.mp H
    obtain ⟨⟨t353, t354, t355⟩, A420, H⟩ := H
    (try dsimp only at H)
    have A42 := Aside0.mk A420
    clear A420
    by_cases c43 : t343 = true
    rotate_left
    · replace c43 := Bool.eq_false_iff.mpr c43
      subst c43
      rw [if_neg (show ¬ (false = true) by decide)] at H
      exact absurd ((Option.some.inj H).trans HRT.out) (by decide)
    subst c43
    rw [if_pos rfl] at H
    by_cases c44 : t347 = true
    rotate_left
    · replace c44 := Bool.eq_false_iff.mpr c44
      subst c44
      rw [if_neg (show ¬ (false = true) by decide)] at H
      exact absurd ((Option.some.inj H).trans HRT.out) (by decide)
    subst c44
    rw [if_pos rfl] at H
    by_cases c45 : (!(t345 == t329) || (!(t346 == t330))) = true
    · rw [if_pos c45] at H
      have c45b0 : (!(t345 == t329) || (!(t346 == t330))) = true := c45
      clear c45
      (first | rw [c45b0] | (simp only [i64_w, i32_w]; rw [c45b0]) | skip)
      exact absurd ((Option.some.inj H).trans HRT.out) (by decide)
    rw [if_neg c45] at H
    have c45b0 : (!(t345 == t329) || (!(t346 == t330))) = false := by simpa using c45
    clear c45
    (first | rw [c45b0] | (simp only [i64_w, i32_w]; rw [c45b0]) | skip)
    by_cases c46 : t351 = true
    rotate_left
    · replace c46 := Bool.eq_false_iff.mpr c46
      subst c46
      rw [if_neg (show ¬ (false = true) by decide)] at H
      exact absurd ((Option.some.inj H).trans HRT.out) (by decide)
    subst c46
    rw [if_pos rfl] at H
    by_cases c47 : t355 = true
    rotate_left
    · replace c47 := Bool.eq_false_iff.mpr c47
      subst c47
      rw [if_neg (show ¬ (false = true) by decide)] at H
      exact absurd ((Option.some.inj H).trans HRT.out) (by decide)
    subst c47
    rw [if_pos rfl] at H
    by_cases c48 : (!(t353 == t333) || (!(t354 == t334))) = true
    · rw [if_pos c48] at H
      have c48b0 : (!(t353 == t333) || (!(t354 == t334))) = true := c48
      clear c48
      exact absurd ((Option.some.inj H).trans HRT.out) (by decide)
    rw [if_neg c48] at H
    have c48b0 : (!(t353 == t333) || (!(t354 == t334))) = false := by simpa using c48
    clear c48
    by_cases c49 : ((t329 == 0) != (t333 == 0)) = true
    · rw [if_pos c49] at H
      have c49b0 : ((t329 == 0) != (t333 == 0)) = true := c49
      (try (have c49b1 : decide ((t329 == 0) = (t333 == 0)) = false := by simpa using c49))
      (try (have c49b2 : ((t329 == 0) == (t333 == 0)) = false := by simpa using c49))
      (try (have c49b3 : ¬ ((t329 == 0) = (t333 == 0)) := by simpa using c49))
      clear c49
      exact absurd ((Option.some.inj H).trans HRT.out) (by decide)
    rw [if_neg c49] at H
    have c49b0 : ((t329 == 0) != (t333 == 0)) = false := by simpa using c49
    (try (have c49b1 : decide ((t329 == 0) = (t333 == 0)) = true := by simpa using c49))
    (try (have c49b2 : ((t329 == 0) == (t333 == 0)) = true := by simpa using c49))
    clear c49
    by_cases c50 : ((t329 == t330) != (t333 == t334)) = true
    · rw [if_pos c50] at H
      have c50b0 : ((t329 == t330) != (t333 == t334)) = true := c50
      (try (have c50b1 : decide ((t329 == t330) = (t333 == t334)) = false := by simpa using c50))
      (try (have c50b2 : ((t329 == t330) == (t333 == t334)) = false := by simpa using c50))
      (try (have c50b3 : ¬ ((t329 == t330) = (t333 == t334)) := by simpa using c50))
      clear c50
      exact absurd ((Option.some.inj H).trans HRT.out) (by decide)
    rw [if_neg c50] at H
    have c50b0 : ((t329 == t330) != (t333 == t334)) = false := by simpa using c50
    (try (have c50b1 : decide ((t329 == t330) = (t333 == t334)) = true := by simpa using c50))
    (try (have c50b2 : ((t329 == t330) == (t333 == t334)) = true := by simpa using c50))
    clear c50
    have H' := Aside0.mk H
    clear H
    have hnb51 := NB331_332.out
    have hnc51 := NB332_331.out
    have hnb52 := NB331_336.out
    have hnc52 := NB336_331.out
    have hcz53_0 : wc.cell? ⟨gb331, 0, none⟩ = some (.string t327) := (blk_cell BK331.out 0).trans rfl
    have hcz53_1 : wc.cell? ⟨gb331, 1, none⟩ = some (.string t328) := (blk_cell BK331.out 1).trans rfl
    have hfz53_0 := blk_frozen BK331.out 0
    have hfz53_1 := blk_frozen BK331.out 1
    go_wp2_with (first | ((with_reducible refine gate_callee (f := 8) rfl ?_); refine goesL_ (some 80) rfl rfl Tryz.func8 (by kernel_rfl) rfl #[.agg #[.string t327, .string t328]] rfl lm ?_; (with_reducible refine (impl_InversePair.calls t327 t328 t341 t342 true _ A39.out).mono ?_); rintro e w54 ⟨rfl, hb⟩; refine ⟨_, rfl, ?_⟩; have n0_ := Aside0.mk (blk_below (lb BK331.out) hb); have n1_ := Aside0.mk (blk_below (lb BK332.out) hb); have n2_ := Aside0.mk (blk_below (lb BK336.out) hb); have n3_ := Aside0.mk (below_step (lB HB.out) hb); clear BK331 BK332 BK336 HB; have BK331 := n0_; have BK332 := n1_; have BK336 := n2_; have HB := n3_; clear n0_ n1_ n2_ n3_; (try clear hb); (try clear hb2); (try clear hk); (try clear hi)) | ((with_reducible refine gate_dst (N := 11) rfl ?_); refine box_event ?hg (N := 11) ?hd (cs := #[.string (⟨#[]⟩ : ByteArray), .string (⟨#[]⟩ : ByteArray)]) (t := 25) ?hr ?_; (case hd => rfl); (case hg => rfl); (case hr => exact lr); intro gb344 hg w55 hbox hb; have n0_ := Aside0.mk (blk_below (lb BK331.out) hb); have n1_ := Aside0.mk (blk_below (lb BK332.out) hb); have n2_ := Aside0.mk (blk_below (lb BK336.out) hb); have n3_ := Aside0.mk (below_step (lB HB.out) hb); have n4_ := Aside0.mk (hbox); have n5_ := gw hg (lB HB.out); have n6_ := gw hg (lB HB.out); have n7_ := na hg (lb BK331.out); have n8_ := nz hg (lb BK331.out); have n9_ := na hg (lb BK332.out); have n10_ := nz hg (lb BK332.out); have n11_ := na hg (lb BK336.out); have n12_ := nz hg (lb BK336.out); clear BK331 BK332 BK336 HB; have BK331 := n0_; have BK332 := n1_; have BK336 := n2_; have HB := n3_; have BK344 := n4_; have GW344 := n5_; have GE344 := n6_; have NB331_344 := n7_; have NB344_331 := n8_; have NB332_344 := n9_; have NB344_332 := n10_; have NB336_344 := n11_; have NB344_336 := n12_; clear n0_ n1_ n2_ n3_ n4_ n5_ n6_ n7_ n8_ n9_ n10_ n11_ n12_; clear hb hbox hg; have hnb56 := NB344_331.out; have hnc56 := NB331_344.out; have hnb57 := NB344_332.out; have hnc57 := NB332_344.out; have hnb58 := NB344_336.out; have hnc58 := NB336_344.out; have hcz59_0 : w55.cell? ⟨gb344, 0, none⟩ = some (.string (⟨#[]⟩ : ByteArray)) := (blk_cell BK344.out 0).trans rfl; have hcz59_1 : w55.cell? ⟨gb344, 1, none⟩ = some (.string (⟨#[]⟩ : ByteArray)) := (blk_cell BK344.out 1).trans rfl; have hfz59_0 := blk_frozen BK344.out 0; have hfz59_1 := blk_frozen BK344.out 1; have hnb60 := NB336_332.out; have hnc60 := NB332_336.out; have hcz61_0 : w55.cell? ⟨gb336, 0, none⟩ = some (.int .i64 t333) := (blk_cell BK336.out 0).trans rfl; have hcz61_1 : w55.cell? ⟨gb336, 1, none⟩ = some (.int .i64 t334) := (blk_cell BK336.out 1).trans rfl; have hfz61_0 := blk_frozen BK336.out 0; have hfz61_1 := blk_frozen BK336.out 1) | ((with_reducible refine gate_callee (f := 6) rfl ?_); refine goesL_ (some 86) rfl rfl Tryz.func6 (by kernel_rfl) rfl #[.agg #[.string t341, .string t342], .agg #[.int .i64 t333, .int .i64 t334]] rfl lm ?_; (with_reducible refine (impl_ValueOf.calls t341 t342 t333 t334 t345 t346 true _ A40.out).mono ?_); rintro e w62 ⟨rfl, hb⟩; refine ⟨_, rfl, ?_⟩; have n0_ := Aside0.mk (blk_below (g := gb331) (o := .cells #[.string t327, .string t328] 25 (0, 0)) (by (with_reducible repeat (first | refine blk_drewN ?_ _ | refine blk_drew ?_ | refine blk_alloc ?_ _)); refine blk_far ?_ NB331_344.out _; (with_reducible repeat (first | refine blk_drewN ?_ _ | refine blk_drew ?_ | refine blk_alloc ?_ _)); refine blk_far ?_ NB331_344.out _; exact lb BK331.out) hb); have n1_ := Aside0.mk (blk_below (g := gb332) (o := .cells #[.int .i64 t329, .int .i64 t330] 27 (0, 0)) (by (with_reducible repeat (first | refine blk_drewN ?_ _ | refine blk_drew ?_ | refine blk_alloc ?_ _)); refine blk_far ?_ NB332_344.out _; (with_reducible repeat (first | refine blk_drewN ?_ _ | refine blk_drew ?_ | refine blk_alloc ?_ _)); refine blk_far ?_ NB332_344.out _; exact lb BK332.out) hb); have n2_ := Aside0.mk (blk_below (g := gb336) (o := .cells #[.int .i64 t333, .int .i64 t334] 27 (0, 0)) (by (with_reducible repeat (first | refine blk_drewN ?_ _ | refine blk_drew ?_ | refine blk_alloc ?_ _)); refine blk_far ?_ NB336_344.out _; (with_reducible repeat (first | refine blk_drewN ?_ _ | refine blk_drew ?_ | refine blk_alloc ?_ _)); refine blk_far ?_ NB336_344.out _; exact lb BK336.out) hb); have n3_ := Aside0.mk (blk_below (g := gb344) (o := .cells #[.string t341, .string t342] 25 (0, 0)) (by (with_reducible repeat (first | refine blk_drewN ?_ _ | refine blk_drew ?_ | refine blk_alloc ?_ _)); refine blk_put (cs := #[.string t341, .string (⟨#[]⟩ : ByteArray)]) ?_ 1 _ rfl; (with_reducible repeat (first | refine blk_drewN ?_ _ | refine blk_drew ?_ | refine blk_alloc ?_ _)); refine blk_put (cs := #[.string (⟨#[]⟩ : ByteArray), .string (⟨#[]⟩ : ByteArray)]) ?_ 0 _ rfl; exact lb BK344.out) hb); have n4_ := Aside0.mk (below_step (lB HB.out) hb); clear BK331 BK332 BK336 BK344 HB; have BK331 := n0_; have BK332 := n1_; have BK336 := n2_; have BK344 := n3_; have HB := n4_; clear n0_ n1_ n2_ n3_ n4_; (try clear hb); (try clear hb2); (try clear hk); (try clear hi)) | ((with_reducible refine gate_dst (N := 13) rfl ?_); refine box_event ?hg (N := 13) ?hd (cs := #[.int .i64 0, .int .i64 0]) (t := 27) ?hr ?_; (case hd => rfl); (case hg => rfl); (case hr => exact lr); intro gb348 hg w63 hbox hb; have n0_ := Aside0.mk (blk_below (lb BK331.out) hb); have n1_ := Aside0.mk (blk_below (lb BK332.out) hb); have n2_ := Aside0.mk (blk_below (lb BK336.out) hb); have n3_ := Aside0.mk (blk_below (lb BK344.out) hb); have n4_ := Aside0.mk (below_step (lB HB.out) hb); have n5_ := Aside0.mk (hbox); have n6_ := gw hg (lB HB.out); have n7_ := gw hg (lB HB.out); have n8_ := na hg (lb BK331.out); have n9_ := nz hg (lb BK331.out); have n10_ := na hg (lb BK332.out); have n11_ := nz hg (lb BK332.out); have n12_ := na hg (lb BK336.out); have n13_ := nz hg (lb BK336.out); have n14_ := na hg (lb BK344.out); have n15_ := nz hg (lb BK344.out); clear BK331 BK332 BK336 BK344 HB; have BK331 := n0_; have BK332 := n1_; have BK336 := n2_; have BK344 := n3_; have HB := n4_; have BK348 := n5_; have GW348 := n6_; have GE348 := n7_; have NB331_348 := n8_; have NB348_331 := n9_; have NB332_348 := n10_; have NB348_332 := n11_; have NB336_348 := n12_; have NB348_336 := n13_; have NB344_348 := n14_; have NB348_344 := n15_; clear n0_ n1_ n2_ n3_ n4_ n5_ n6_ n7_ n8_ n9_ n10_ n11_ n12_ n13_ n14_ n15_; clear hb hbox hg; have hnb64 := NB348_331.out; have hnc64 := NB331_348.out; have hnb65 := NB348_332.out; have hnc65 := NB332_348.out; have hnb66 := NB348_336.out; have hnc66 := NB336_348.out; have hnb67 := NB348_344.out; have hnc67 := NB344_348.out; have hcz68_0 : w63.cell? ⟨gb348, 0, none⟩ = some (.int .i64 0) := (blk_cell BK348.out 0).trans rfl; have hcz68_1 : w63.cell? ⟨gb348, 1, none⟩ = some (.int .i64 0) := (blk_cell BK348.out 1).trans rfl; have hfz68_0 := blk_frozen BK348.out 0; have hfz68_1 := blk_frozen BK348.out 1; have hcz69_0 : w63.cell? ⟨gb331, 0, none⟩ = some (.string t327) := (blk_cell BK331.out 0).trans rfl; have hcz69_1 : w63.cell? ⟨gb331, 1, none⟩ = some (.string t328) := (blk_cell BK331.out 1).trans rfl; have hfz69_0 := blk_frozen BK331.out 0; have hfz69_1 := blk_frozen BK331.out 1) | ((with_reducible refine gate_callee (f := 9) rfl ?_); refine goesL_ (some 91) rfl rfl Tryz.func9 (by kernel_rfl) rfl #[.agg #[.string t327, .string t328]] rfl lm ?_; (with_reducible refine (impl_ReducePair.calls t327 t328 t349 t350 true _ A41.out).mono ?_); rintro e w70 ⟨rfl, hb⟩; refine ⟨_, rfl, ?_⟩; have n0_ := Aside0.mk (blk_below (g := gb331) (o := .cells #[.string t327, .string t328] 25 (0, 0)) (by (with_reducible repeat (first | refine blk_drewN ?_ _ | refine blk_drew ?_ | refine blk_alloc ?_ _)); refine blk_far ?_ NB331_348.out _; (with_reducible repeat (first | refine blk_drewN ?_ _ | refine blk_drew ?_ | refine blk_alloc ?_ _)); refine blk_far ?_ NB331_348.out _; exact lb BK331.out) hb); have n1_ := Aside0.mk (blk_below (g := gb332) (o := .cells #[.int .i64 t329, .int .i64 t330] 27 (0, 0)) (by (with_reducible repeat (first | refine blk_drewN ?_ _ | refine blk_drew ?_ | refine blk_alloc ?_ _)); refine blk_far ?_ NB332_348.out _; (with_reducible repeat (first | refine blk_drewN ?_ _ | refine blk_drew ?_ | refine blk_alloc ?_ _)); refine blk_far ?_ NB332_348.out _; exact lb BK332.out) hb); have n2_ := Aside0.mk (blk_below (g := gb336) (o := .cells #[.int .i64 t333, .int .i64 t334] 27 (0, 0)) (by (with_reducible repeat (first | refine blk_drewN ?_ _ | refine blk_drew ?_ | refine blk_alloc ?_ _)); refine blk_far ?_ NB336_348.out _; (with_reducible repeat (first | refine blk_drewN ?_ _ | refine blk_drew ?_ | refine blk_alloc ?_ _)); refine blk_far ?_ NB336_348.out _; exact lb BK336.out) hb); have n3_ := Aside0.mk (blk_below (g := gb344) (o := .cells #[.string t341, .string t342] 25 (0, 0)) (by (with_reducible repeat (first | refine blk_drewN ?_ _ | refine blk_drew ?_ | refine blk_alloc ?_ _)); refine blk_far ?_ NB344_348.out _; (with_reducible repeat (first | refine blk_drewN ?_ _ | refine blk_drew ?_ | refine blk_alloc ?_ _)); refine blk_far ?_ NB344_348.out _; exact lb BK344.out) hb); have n4_ := Aside0.mk (blk_below (g := gb348) (o := .cells #[.int .i64 t345, .int .i64 t346] 27 (0, 0)) (by (with_reducible repeat (first | refine blk_drewN ?_ _ | refine blk_drew ?_ | refine blk_alloc ?_ _)); refine blk_put (cs := #[.int .i64 t345, .int .i64 0]) ?_ 1 _ rfl; (with_reducible repeat (first | refine blk_drewN ?_ _ | refine blk_drew ?_ | refine blk_alloc ?_ _)); refine blk_put (cs := #[.int .i64 0, .int .i64 0]) ?_ 0 _ rfl; exact lb BK348.out) hb); have n5_ := Aside0.mk (below_step (lB HB.out) hb); clear BK331 BK332 BK336 BK344 BK348 HB; have BK331 := n0_; have BK332 := n1_; have BK336 := n2_; have BK344 := n3_; have BK348 := n4_; have HB := n5_; clear n0_ n1_ n2_ n3_ n4_ n5_; (try clear hb); (try clear hb2); (try clear hk); (try clear hi)) | ((with_reducible refine gate_dst (N := 15) rfl ?_); refine box_event ?hg (N := 15) ?hd (cs := #[.string (⟨#[]⟩ : ByteArray), .string (⟨#[]⟩ : ByteArray)]) (t := 25) ?hr ?_; (case hd => rfl); (case hg => rfl); (case hr => exact lr); intro gb352 hg w71 hbox hb; have n0_ := Aside0.mk (blk_below (lb BK331.out) hb); have n1_ := Aside0.mk (blk_below (lb BK332.out) hb); have n2_ := Aside0.mk (blk_below (lb BK336.out) hb); have n3_ := Aside0.mk (blk_below (lb BK344.out) hb); have n4_ := Aside0.mk (blk_below (lb BK348.out) hb); have n5_ := Aside0.mk (below_step (lB HB.out) hb); have n6_ := Aside0.mk (hbox); have n7_ := gw hg (lB HB.out); have n8_ := gw hg (lB HB.out); have n9_ := na hg (lb BK331.out); have n10_ := nz hg (lb BK331.out); have n11_ := na hg (lb BK332.out); have n12_ := nz hg (lb BK332.out); have n13_ := na hg (lb BK336.out); have n14_ := nz hg (lb BK336.out); have n15_ := na hg (lb BK344.out); have n16_ := nz hg (lb BK344.out); have n17_ := na hg (lb BK348.out); have n18_ := nz hg (lb BK348.out); clear BK331 BK332 BK336 BK344 BK348 HB; have BK331 := n0_; have BK332 := n1_; have BK336 := n2_; have BK344 := n3_; have BK348 := n4_; have HB := n5_; have BK352 := n6_; have GW352 := n7_; have GE352 := n8_; have NB331_352 := n9_; have NB352_331 := n10_; have NB332_352 := n11_; have NB352_332 := n12_; have NB336_352 := n13_; have NB352_336 := n14_; have NB344_352 := n15_; have NB352_344 := n16_; have NB348_352 := n17_; have NB352_348 := n18_; clear n0_ n1_ n2_ n3_ n4_ n5_ n6_ n7_ n8_ n9_ n10_ n11_ n12_ n13_ n14_ n15_ n16_ n17_ n18_; clear hb hbox hg; have hnb72 := NB352_331.out; have hnc72 := NB331_352.out; have hnb73 := NB352_332.out; have hnc73 := NB332_352.out; have hnb74 := NB352_336.out; have hnc74 := NB336_352.out; have hnb75 := NB352_344.out; have hnc75 := NB344_352.out; have hnb76 := NB352_348.out; have hnc76 := NB348_352.out; have hcz77_0 : w71.cell? ⟨gb352, 0, none⟩ = some (.string (⟨#[]⟩ : ByteArray)) := (blk_cell BK352.out 0).trans rfl; have hcz77_1 : w71.cell? ⟨gb352, 1, none⟩ = some (.string (⟨#[]⟩ : ByteArray)) := (blk_cell BK352.out 1).trans rfl; have hfz77_0 := blk_frozen BK352.out 0; have hfz77_1 := blk_frozen BK352.out 1; have hcz78_0 : w71.cell? ⟨gb332, 0, none⟩ = some (.int .i64 t329) := (blk_cell BK332.out 0).trans rfl; have hcz78_1 : w71.cell? ⟨gb332, 1, none⟩ = some (.int .i64 t330) := (blk_cell BK332.out 1).trans rfl; have hfz78_0 := blk_frozen BK332.out 0; have hfz78_1 := blk_frozen BK332.out 1) | ((with_reducible refine gate_callee (f := 6) rfl ?_); refine goesL_ (some 97) rfl rfl Tryz.func6 (by kernel_rfl) rfl #[.agg #[.string t349, .string t350], .agg #[.int .i64 t329, .int .i64 t330]] rfl lm ?_; (with_reducible refine (impl_ValueOf.calls t349 t350 t329 t330 t353 t354 true _ A42.out).mono ?_); rintro e w79 ⟨rfl, hb⟩; refine ⟨_, rfl, ?_⟩; have n0_ := Aside0.mk (blk_below (g := gb331) (o := .cells #[.string t327, .string t328] 25 (0, 0)) (by (with_reducible repeat (first | refine blk_drewN ?_ _ | refine blk_drew ?_ | refine blk_alloc ?_ _)); refine blk_far ?_ NB331_352.out _; (with_reducible repeat (first | refine blk_drewN ?_ _ | refine blk_drew ?_ | refine blk_alloc ?_ _)); refine blk_far ?_ NB331_352.out _; exact lb BK331.out) hb); have n1_ := Aside0.mk (blk_below (g := gb332) (o := .cells #[.int .i64 t329, .int .i64 t330] 27 (0, 0)) (by (with_reducible repeat (first | refine blk_drewN ?_ _ | refine blk_drew ?_ | refine blk_alloc ?_ _)); refine blk_far ?_ NB332_352.out _; (with_reducible repeat (first | refine blk_drewN ?_ _ | refine blk_drew ?_ | refine blk_alloc ?_ _)); refine blk_far ?_ NB332_352.out _; exact lb BK332.out) hb); have n2_ := Aside0.mk (blk_below (g := gb336) (o := .cells #[.int .i64 t333, .int .i64 t334] 27 (0, 0)) (by (with_reducible repeat (first | refine blk_drewN ?_ _ | refine blk_drew ?_ | refine blk_alloc ?_ _)); refine blk_far ?_ NB336_352.out _; (with_reducible repeat (first | refine blk_drewN ?_ _ | refine blk_drew ?_ | refine blk_alloc ?_ _)); refine blk_far ?_ NB336_352.out _; exact lb BK336.out) hb); have n3_ := Aside0.mk (blk_below (g := gb344) (o := .cells #[.string t341, .string t342] 25 (0, 0)) (by (with_reducible repeat (first | refine blk_drewN ?_ _ | refine blk_drew ?_ | refine blk_alloc ?_ _)); refine blk_far ?_ NB344_352.out _; (with_reducible repeat (first | refine blk_drewN ?_ _ | refine blk_drew ?_ | refine blk_alloc ?_ _)); refine blk_far ?_ NB344_352.out _; exact lb BK344.out) hb); have n4_ := Aside0.mk (blk_below (g := gb348) (o := .cells #[.int .i64 t345, .int .i64 t346] 27 (0, 0)) (by (with_reducible repeat (first | refine blk_drewN ?_ _ | refine blk_drew ?_ | refine blk_alloc ?_ _)); refine blk_far ?_ NB348_352.out _; (with_reducible repeat (first | refine blk_drewN ?_ _ | refine blk_drew ?_ | refine blk_alloc ?_ _)); refine blk_far ?_ NB348_352.out _; exact lb BK348.out) hb); have n5_ := Aside0.mk (blk_below (g := gb352) (o := .cells #[.string t349, .string t350] 25 (0, 0)) (by (with_reducible repeat (first | refine blk_drewN ?_ _ | refine blk_drew ?_ | refine blk_alloc ?_ _)); refine blk_put (cs := #[.string t349, .string (⟨#[]⟩ : ByteArray)]) ?_ 1 _ rfl; (with_reducible repeat (first | refine blk_drewN ?_ _ | refine blk_drew ?_ | refine blk_alloc ?_ _)); refine blk_put (cs := #[.string (⟨#[]⟩ : ByteArray), .string (⟨#[]⟩ : ByteArray)]) ?_ 0 _ rfl; exact lb BK352.out) hb); have n6_ := Aside0.mk (below_step (lB HB.out) hb); clear BK331 BK332 BK336 BK344 BK348 BK352 HB; have BK331 := n0_; have BK332 := n1_; have BK336 := n2_; have BK344 := n3_; have BK348 := n4_; have BK352 := n5_; have HB := n6_; clear n0_ n1_ n2_ n3_ n4_ n5_ n6_; (try clear hb); (try clear hb2); (try clear hk); (try clear hi)) | ((with_reducible refine gate_dst (N := 17) rfl ?_); refine box_event ?hg (N := 17) ?hd (cs := #[.int .i64 0, .int .i64 0]) (t := 27) ?hr ?_; (case hd => rfl); (case hg => rfl); (case hr => exact lr); intro gb356 hg w80 hbox hb; have n0_ := Aside0.mk (blk_below (lb BK331.out) hb); have n1_ := Aside0.mk (blk_below (lb BK332.out) hb); have n2_ := Aside0.mk (blk_below (lb BK336.out) hb); have n3_ := Aside0.mk (blk_below (lb BK344.out) hb); have n4_ := Aside0.mk (blk_below (lb BK348.out) hb); have n5_ := Aside0.mk (blk_below (lb BK352.out) hb); have n6_ := Aside0.mk (below_step (lB HB.out) hb); have n7_ := Aside0.mk (hbox); have n8_ := gw hg (lB HB.out); have n9_ := gw hg (lB HB.out); have n10_ := na hg (lb BK331.out); have n11_ := nz hg (lb BK331.out); have n12_ := na hg (lb BK332.out); have n13_ := nz hg (lb BK332.out); have n14_ := na hg (lb BK336.out); have n15_ := nz hg (lb BK336.out); have n16_ := na hg (lb BK344.out); have n17_ := nz hg (lb BK344.out); have n18_ := na hg (lb BK348.out); have n19_ := nz hg (lb BK348.out); have n20_ := na hg (lb BK352.out); have n21_ := nz hg (lb BK352.out); clear BK331 BK332 BK336 BK344 BK348 BK352 HB; have BK331 := n0_; have BK332 := n1_; have BK336 := n2_; have BK344 := n3_; have BK348 := n4_; have BK352 := n5_; have HB := n6_; have BK356 := n7_; have GW356 := n8_; have GE356 := n9_; have NB331_356 := n10_; have NB356_331 := n11_; have NB332_356 := n12_; have NB356_332 := n13_; have NB336_356 := n14_; have NB356_336 := n15_; have NB344_356 := n16_; have NB356_344 := n17_; have NB348_356 := n18_; have NB356_348 := n19_; have NB352_356 := n20_; have NB356_352 := n21_; clear n0_ n1_ n2_ n3_ n4_ n5_ n6_ n7_ n8_ n9_ n10_ n11_ n12_ n13_ n14_ n15_ n16_ n17_ n18_ n19_ n20_ n21_; clear hb hbox hg; have hnb81 := NB356_331.out; have hnc81 := NB331_356.out; have hnb82 := NB356_332.out; have hnc82 := NB332_356.out; have hnb83 := NB356_336.out; have hnc83 := NB336_356.out; have hnb84 := NB356_344.out; have hnc84 := NB344_356.out; have hnb85 := NB356_348.out; have hnc85 := NB348_356.out; have hnb86 := NB356_352.out; have hnc86 := NB352_356.out; have hcz87_0 : w80.cell? ⟨gb356, 0, none⟩ = some (.int .i64 0) := (blk_cell BK356.out 0).trans rfl; have hcz87_1 : w80.cell? ⟨gb356, 1, none⟩ = some (.int .i64 0) := (blk_cell BK356.out 1).trans rfl; have hfz87_0 := blk_frozen BK356.out 0; have hfz87_1 := blk_frozen BK356.out 1; have hcz88_0 : w80.cell? ⟨gb348, 0, none⟩ = some (.int .i64 t345) := (blk_cell BK348.out 0).trans rfl; have hcz88_1 : w80.cell? ⟨gb348, 1, none⟩ = some (.int .i64 t346) := (blk_cell BK348.out 1).trans rfl; have hfz88_0 := blk_frozen BK348.out 0; have hfz88_1 := blk_frozen BK348.out 1; have hcz89_0 : w80.cell? ⟨gb332, 0, none⟩ = some (.int .i64 t329) := (blk_cell BK332.out 0).trans rfl; have hcz89_1 : w80.cell? ⟨gb332, 1, none⟩ = some (.int .i64 t330) := (blk_cell BK332.out 1).trans rfl; have hfz89_0 := blk_frozen BK332.out 0; have hfz89_1 := blk_frozen BK332.out 1; have hcz90_0 : w80.cell? ⟨gb336, 0, none⟩ = some (.int .i64 t333) := (blk_cell BK336.out 0).trans rfl; have hcz90_1 : w80.cell? ⟨gb336, 1, none⟩ = some (.int .i64 t334) := (blk_cell BK336.out 1).trans rfl; have hfz90_0 := blk_frozen BK336.out 0; have hfz90_1 := blk_frozen BK336.out 1))
    go_meet
    case rel => exact ⟨_, H', ⟨by have := HJ7.out; first | omega | exact Nat.le_refl _⟩, ⟨by exact lB HB.out⟩⟩
   case rest =>
   as_aux_lemma =>
   clear HC37
   (try clear c36)
   obtain ⟨kq, HA, HJ36, HB⟩ := hcut
   cases kq with
   | zero => exact absurd HA.out (by simp [laws_FnMapsOfPairs.j1])
   | succ kj36 =>
    have H := HA.out
    clear HA
    simp only [laws_FnMapsOfPairs.j1] at H
    replace H := Option.bind_eq_some_iff.mp H
    obtain ⟨⟨t357, t358, t359, t360⟩, A910, H⟩ := H
    (try dsimp only at H)
    have A91 := Aside0.mk A910
    clear A910
    replace H := Option.bind_eq_some_iff.mp H
    obtain ⟨⟨t363, t364, t365⟩, A920, H⟩ := H
    (try dsimp only at H)
    have A92 := Aside0.mk A920
    clear A920
    have HC93 := Aside0.mk H
    clear H
    go_upto_if 157 with (first | ((with_reducible refine gate_callee (f := 10) rfl ?_); refine goesL_ (some 148) rfl rfl Tryz.func10 (by kernel_rfl) rfl #[.slice A1 l1.length c1] rfl lm ?_; (with_reducible refine (spec_DrawProductPair.calls kj36 _ _ l1 t357 t358 t359 t360 _ ?side1 ?side2 A91.out).mono ?_); (case side1 => repeat (first | exact (Kd.C_below HR1.out HB.out) | (with_reducible refine Kd.C_alloc ?_ _) | (with_reducible refine Kd.C_drewN ?_ _) | (with_reducible refine Kd.C_drew ?_))); (case side2 => exact HC1.out); rintro e w94 ⟨rfl, hb⟩; refine ⟨_, rfl, ?_⟩; have n0_ := Aside0.mk (below_step (lB HB.out) hb); clear HB; have HB := n0_; clear n0_; (try clear hb); (try clear hb2); (try clear hk); (try clear hi)) | ((with_reducible refine gate_dst (N := 19) rfl ?_); refine box_event ?hg (N := 19) ?hd (cs := #[.string (⟨#[]⟩ : ByteArray), .string (⟨#[]⟩ : ByteArray)]) (t := 25) ?hr ?_; (case hd => rfl); (case hg => rfl); (case hr => exact lr); intro gb361 hg w95 hbox hb; have n0_ := Aside0.mk (below_step (lB HB.out) hb); have n1_ := Aside0.mk (hbox); have n2_ := gw hg (lB HB.out); have n3_ := gw hg (lB HB.out); clear HB; have HB := n0_; have BK361 := n1_; have GW361 := n2_; have GE361 := n3_; clear n0_ n1_ n2_ n3_; clear hb hbox hg) | ((with_reducible refine gate_dst (N := 20) rfl ?_); refine box_event ?hg (N := 20) ?hd (cs := #[.string (⟨#[]⟩ : ByteArray), .string (⟨#[]⟩ : ByteArray)]) (t := 25) ?hr ?_; (case hd => rfl); (case hg => rfl); (case hr => exact lr); intro gb362 hg w96 hbox hb; have n0_ := Aside0.mk (blk_below (lb BK361.out) hb); have n1_ := Aside0.mk (below_step (lB HB.out) hb); have n2_ := Aside0.mk (hbox); have n3_ := gw hg (lB HB.out); have n4_ := gw hg (lB HB.out); have n5_ := na hg (lb BK361.out); have n6_ := nz hg (lb BK361.out); clear BK361 HB; have BK361 := n0_; have HB := n1_; have BK362 := n2_; have GW362 := n3_; have GE362 := n4_; have NB361_362 := n5_; have NB362_361 := n6_; clear n0_ n1_ n2_ n3_ n4_ n5_ n6_; clear hb hbox hg; have hnb97 := NB361_362.out; have hnc97 := NB362_361.out; have hcz98_0 : w96.cell? ⟨gb361, 0, none⟩ = some (.string (⟨#[]⟩ : ByteArray)) := (blk_cell BK361.out 0).trans rfl; have hcz98_1 : w96.cell? ⟨gb361, 1, none⟩ = some (.string (⟨#[]⟩ : ByteArray)) := (blk_cell BK361.out 1).trans rfl; have hfz98_0 := blk_frozen BK361.out 0; have hfz98_1 := blk_frozen BK361.out 1; have hcz99_0 : w96.cell? ⟨gb362, 0, none⟩ = some (.string (⟨#[]⟩ : ByteArray)) := (blk_cell BK362.out 0).trans rfl; have hcz99_1 : w96.cell? ⟨gb362, 1, none⟩ = some (.string (⟨#[]⟩ : ByteArray)) := (blk_cell BK362.out 1).trans rfl; have hfz99_0 := blk_frozen BK362.out 0; have hfz99_1 := blk_frozen BK362.out 1) | ((with_reducible refine gate_callee (f := 11) rfl ?_); refine goesL_ (some 154) rfl rfl Tryz.func11 (by kernel_rfl) rfl #[.agg #[.string t357, .string t358], .agg #[.string t359, .string t360]] rfl lm ?_; (with_reducible refine (impl_ProductPair.calls t357 t358 t359 t360 t363 t364 t365 _ A92.out).mono ?_); rintro e w100 ⟨rfl, hb⟩; refine ⟨_, rfl, ?_⟩; have n0_ := Aside0.mk (blk_below (g := gb361) (o := .cells #[.string t357, .string t358] 25 (0, 0)) (by (with_reducible repeat (first | refine blk_drewN ?_ _ | refine blk_drew ?_ | refine blk_alloc ?_ _)); refine blk_far ?_ NB361_362.out _; (with_reducible repeat (first | refine blk_drewN ?_ _ | refine blk_drew ?_ | refine blk_alloc ?_ _)); refine blk_far ?_ NB361_362.out _; (with_reducible repeat (first | refine blk_drewN ?_ _ | refine blk_drew ?_ | refine blk_alloc ?_ _)); refine blk_put (cs := #[.string t357, .string (⟨#[]⟩ : ByteArray)]) ?_ 1 _ rfl; (with_reducible repeat (first | refine blk_drewN ?_ _ | refine blk_drew ?_ | refine blk_alloc ?_ _)); refine blk_put (cs := #[.string (⟨#[]⟩ : ByteArray), .string (⟨#[]⟩ : ByteArray)]) ?_ 0 _ rfl; exact lb BK361.out) hb); have n1_ := Aside0.mk (blk_below (g := gb362) (o := .cells #[.string t359, .string t360] 25 (0, 0)) (by (with_reducible repeat (first | refine blk_drewN ?_ _ | refine blk_drew ?_ | refine blk_alloc ?_ _)); refine blk_put (cs := #[.string t359, .string (⟨#[]⟩ : ByteArray)]) ?_ 1 _ rfl; (with_reducible repeat (first | refine blk_drewN ?_ _ | refine blk_drew ?_ | refine blk_alloc ?_ _)); refine blk_put (cs := #[.string (⟨#[]⟩ : ByteArray), .string (⟨#[]⟩ : ByteArray)]) ?_ 0 _ rfl; (with_reducible repeat (first | refine blk_drewN ?_ _ | refine blk_drew ?_ | refine blk_alloc ?_ _)); refine blk_far ?_ NB362_361.out _; (with_reducible repeat (first | refine blk_drewN ?_ _ | refine blk_drew ?_ | refine blk_alloc ?_ _)); refine blk_far ?_ NB362_361.out _; exact lb BK362.out) hb); have n2_ := Aside0.mk (below_step (lB HB.out) hb); clear BK361 BK362 HB; have BK361 := n0_; have BK362 := n1_; have HB := n2_; clear n0_ n1_ n2_; (try clear hb); (try clear hb2); (try clear hk); (try clear hi)) | ((with_reducible refine gate_dst (N := 21) rfl ?_); refine box_event ?hg (N := 21) ?hd (cs := #[.string (⟨#[]⟩ : ByteArray), .string (⟨#[]⟩ : ByteArray)]) (t := 25) ?hr ?_; (case hd => rfl); (case hg => rfl); (case hr => exact lr); intro gb366 hg w101 hbox hb; have n0_ := Aside0.mk (blk_below (lb BK361.out) hb); have n1_ := Aside0.mk (blk_below (lb BK362.out) hb); have n2_ := Aside0.mk (below_step (lB HB.out) hb); have n3_ := Aside0.mk (hbox); have n4_ := gw hg (lB HB.out); have n5_ := gw hg (lB HB.out); have n6_ := na hg (lb BK361.out); have n7_ := nz hg (lb BK361.out); have n8_ := na hg (lb BK362.out); have n9_ := nz hg (lb BK362.out); clear BK361 BK362 HB; have BK361 := n0_; have BK362 := n1_; have HB := n2_; have BK366 := n3_; have GW366 := n4_; have GE366 := n5_; have NB361_366 := n6_; have NB366_361 := n7_; have NB362_366 := n8_; have NB366_362 := n9_; clear n0_ n1_ n2_ n3_ n4_ n5_ n6_ n7_ n8_ n9_; clear hb hbox hg; have hnb102 := NB366_361.out; have hnc102 := NB361_366.out; have hnb103 := NB366_362.out; have hnc103 := NB362_366.out; have hcz104_0 : w101.cell? ⟨gb366, 0, none⟩ = some (.string (⟨#[]⟩ : ByteArray)) := (blk_cell BK366.out 0).trans rfl; have hcz104_1 : w101.cell? ⟨gb366, 1, none⟩ = some (.string (⟨#[]⟩ : ByteArray)) := (blk_cell BK366.out 1).trans rfl; have hfz104_0 := blk_frozen BK366.out 0; have hfz104_1 := blk_frozen BK366.out 1))
    (try simp only [Act.put, List.setIfInBounds_toArray, List.set_cons_zero, List.set_cons_succ])
    go_cut [] (fun wc => ∃ (kq : Nat), Aside0 (laws_FnMapsOfPairs.j3 kq l0 l1 = some r) ∧ Aside0 (kq ≤ kj36) ∧ Aside0 (Below w.heap.size w wc))
    case first =>
     as_aux_lemma =>
     have H := HC93.out
     clear HC93
     by_cases c105 : t365 = true
     rotate_left
     · replace c105 := Bool.eq_false_iff.mpr c105
       subst c105
       rw [if_neg (show ¬ (false = true) by decide)] at H
       have H' := Aside0.mk H
       clear H
       go_wp2
       go_meet
       case rel => exact ⟨_, H', ⟨by have := HJ7.out; have := HJ36.out; first | omega | exact Nat.le_refl _⟩, ⟨by exact lB HB.out⟩⟩
     subst c105
     rw [if_pos rfl] at H
     have H' := Aside0.mk H
     clear H
     go_wp2
     go_loopg [23] kj36 (fun kq v23 w' => ∃ (x23_3 : Int), v23 = .int .i64 x23_3 ∧ Aside0 (laws_FnMapsOfPairs.l0 kq l0 l1 x23_3 t357 t358 t359 t360 t363 t364 = some r) ∧ Aside0 (kq ≤ kj36) ∧ Aside0 (w'.heap[gb361]? = some (.cells #[.string t357, .string t358] 25 (0, 0))) ∧ Aside0 (w'.heap[gb362]? = some (.cells #[.string t359, .string t360] 25 (0, 0))) ∧ Aside0 (w'.heap[gb366]? = some (.cells #[.string t363, .string t364] 25 (0, 0))) ∧ Aside0 (Below w.heap.size w w'))
     case atStart => exact ⟨(1), (by first | rfl | (simp; done) | (simp [*]; done)), H', ⟨Nat.le_refl _⟩, ⟨by (with_reducible repeat (first | refine blk_drewN ?_ _ | refine blk_drew ?_ | refine blk_alloc ?_ _)); refine blk_far ?_ NB361_366.out _; (with_reducible repeat (first | refine blk_drewN ?_ _ | refine blk_drew ?_ | refine blk_alloc ?_ _)); refine blk_far ?_ NB361_366.out _; exact lb BK361.out⟩, ⟨by (with_reducible repeat (first | refine blk_drewN ?_ _ | refine blk_drew ?_ | refine blk_alloc ?_ _)); refine blk_far ?_ NB362_366.out _; (with_reducible repeat (first | refine blk_drewN ?_ _ | refine blk_drew ?_ | refine blk_alloc ?_ _)); refine blk_far ?_ NB362_366.out _; exact lb BK362.out⟩, ⟨by (with_reducible repeat (first | refine blk_drewN ?_ _ | refine blk_drew ?_ | refine blk_alloc ?_ _)); refine blk_put (cs := #[.string t363, .string (⟨#[]⟩ : ByteArray)]) ?_ 1 _ rfl; (with_reducible repeat (first | refine blk_drewN ?_ _ | refine blk_drew ?_ | refine blk_alloc ?_ _)); refine blk_put (cs := #[.string (⟨#[]⟩ : ByteArray), .string (⟨#[]⟩ : ByteArray)]) ?_ 0 _ rfl; exact lb BK366.out⟩, ⟨by exact lB HB.out⟩⟩
     case round =>
      clear H'
      (try clear c1)
      (try clear c105)
      (try clear hcz104_0)
      (try clear hcz104_1)
      (try clear hcz98_0)
      (try clear hcz98_1)
      (try clear hcz99_0)
      (try clear hcz99_1)
      (try clear hfz104_0)
      (try clear hfz104_1)
      (try clear hfz98_0)
      (try clear hfz98_1)
      (try clear hfz99_0)
      (try clear hfz99_1)
      obtain ⟨x23_3, rfl, HA, HK3, BK361, BK362, BK366, HB⟩ := hrel
      cases gk with
      | zero => exact absurd HA.out (by simp [laws_FnMapsOfPairs.l0])
      | succ k3 =>
        have H := HA.out
        clear HA
        simp only [laws_FnMapsOfPairs.l0] at H
        by_cases c106 : x23_3 < 16
        · rw [if_pos c106] at H
          have c106b0 : decide (x23_3 < 16) = true := decide_eq_true c106
          clear c106
          (first | rw [c106b0] | (simp only [i64_w, i32_w]; rw [c106b0]) | skip)
          replace H := Option.bind_eq_some_iff.mp H
          obtain ⟨⟨t368, t369, t370⟩, A1070, H⟩ := H
          replace H : ((impl_ValueOf.f t359 t360 t368 t369).bind fun bt372 => ((impl_ValueOf.f t363 t364 x23_3 16).bind fun bt376 => (if t370 = true then (if bt372.2.2 = true then (if bt376.2.2 = true then (if (!(bt372.1 == bt376.1) || (!(bt372.2.1 == bt376.2.1))) = true then (some false) else (laws_FnMapsOfPairs.l0 k3 l0 l1 (wrap64 (x23_3 + 2)) t357 t358 t359 t360 t363 t364)) else (some false)) else (laws_FnMapsOfPairs.l0 k3 l0 l1 (wrap64 (x23_3 + 2)) t357 t358 t359 t360 t363 t364)) else (laws_FnMapsOfPairs.l0 k3 l0 l1 (wrap64 (x23_3 + 2)) t357 t358 t359 t360 t363 t364)))) = some r := H
          have A107 := Aside0.mk A1070
          clear A1070
          replace H := Option.bind_eq_some_iff.mp H
          obtain ⟨⟨t372, t373, t374⟩, A1080, H⟩ := H
          replace H : ((impl_ValueOf.f t363 t364 x23_3 16).bind fun bt376 => (if t370 = true then (if t374 = true then (if bt376.2.2 = true then (if (!(t372 == bt376.1) || (!(t373 == bt376.2.1))) = true then (some false) else (laws_FnMapsOfPairs.l0 k3 l0 l1 (wrap64 (x23_3 + 2)) t357 t358 t359 t360 t363 t364)) else (some false)) else (laws_FnMapsOfPairs.l0 k3 l0 l1 (wrap64 (x23_3 + 2)) t357 t358 t359 t360 t363 t364)) else (laws_FnMapsOfPairs.l0 k3 l0 l1 (wrap64 (x23_3 + 2)) t357 t358 t359 t360 t363 t364))) = some r := H
          have A108 := Aside0.mk A1080
          clear A1080
          replace H := Option.bind_eq_some_iff.mp H
          obtain ⟨⟨t376, t377, t378⟩, A1090, H⟩ := H
          replace H : (if t370 = true then (if t374 = true then (if t378 = true then (if (!(t372 == t376) || (!(t373 == t377))) = true then (some false) else (laws_FnMapsOfPairs.l0 k3 l0 l1 (wrap64 (x23_3 + 2)) t357 t358 t359 t360 t363 t364)) else (some false)) else (laws_FnMapsOfPairs.l0 k3 l0 l1 (wrap64 (x23_3 + 2)) t357 t358 t359 t360 t363 t364)) else (laws_FnMapsOfPairs.l0 k3 l0 l1 (wrap64 (x23_3 + 2)) t357 t358 t359 t360 t363 t364)) = some r := H
          have A109 := Aside0.mk A1090
          clear A1090
          by_cases c110 : t370 = true
          · subst c110
            have H1 : (if t374 = true then (if t378 = true then (if (!(t372 == t376) || (!(t373 == t377))) = true then (some false) else (laws_FnMapsOfPairs.l0 k3 l0 l1 (wrap64 (x23_3 + 2)) t357 t358 t359 t360 t363 t364)) else (some false)) else (laws_FnMapsOfPairs.l0 k3 l0 l1 (wrap64 (x23_3 + 2)) t357 t358 t359 t360 t363 t364)) = some r := by rw [if_pos rfl] at H; exact H
            clear H
            have H := H1
            clear H1
            by_cases c111 : t374 = true
            · subst c111
              have H1 : (if t378 = true then (if (!(t372 == t376) || (!(t373 == t377))) = true then (some false) else (laws_FnMapsOfPairs.l0 k3 l0 l1 (wrap64 (x23_3 + 2)) t357 t358 t359 t360 t363 t364)) else (some false)) = some r := by rw [if_pos rfl] at H; exact H
              clear H
              have H := H1
              clear H1
              by_cases c112 : t378 = true
              · subst c112
                have H1 : (if (!(t372 == t376) || (!(t373 == t377))) = true then (some false) else (laws_FnMapsOfPairs.l0 k3 l0 l1 (wrap64 (x23_3 + 2)) t357 t358 t359 t360 t363 t364)) = some r := by rw [if_pos rfl] at H; exact H
                clear H
                have H := H1
                clear H1
                by_cases c113 : (!(t372 == t376) || (!(t373 == t377))) = true
                · rw [if_pos c113] at H
                  have c113b0 : (!(t372 == t376) || (!(t373 == t377))) = true := c113
                  clear c113
                  exact absurd ((Option.some.inj H).trans HRT.out) (by decide)
                · rw [if_neg c113] at H
                  have c113b0 : (!(t372 == t376) || (!(t373 == t377))) = false := by simpa using c113
                  clear c113
                  have H' := Aside0.mk H
                  clear H
                  go_wp2_with (first | ((with_reducible refine gate_dst (N := 24) rfl ?_); refine box_event ?hg (N := 24) ?hd (cs := #[.int .i64 0, .int .i64 0]) (t := 27) ?hr ?_; (case hd => rfl); (case hg => rfl); (case hr => exact lr); intro gb367 hg w114 hbox hb; have n0_ := Aside0.mk (blk_below (lb BK361.out) hb); have n1_ := Aside0.mk (blk_below (lb BK362.out) hb); have n2_ := Aside0.mk (blk_below (lb BK366.out) hb); have n3_ := Aside0.mk (below_step (lB HB.out) hb); have n4_ := Aside0.mk (hbox); have n5_ := gw hg (lB HB.out); have n6_ := gw hg (lB HB.out); have n7_ := na hg (lb BK361.out); have n8_ := nz hg (lb BK361.out); have n9_ := na hg (lb BK362.out); have n10_ := nz hg (lb BK362.out); have n11_ := na hg (lb BK366.out); have n12_ := nz hg (lb BK366.out); clear BK361 BK362 BK366 HB; have BK361 := n0_; have BK362 := n1_; have BK366 := n2_; have HB := n3_; have BK367 := n4_; have GW367 := n5_; have GE367 := n6_; have NB361_367 := n7_; have NB367_361 := n8_; have NB362_367 := n9_; have NB367_362 := n10_; have NB366_367 := n11_; have NB367_366 := n12_; clear n0_ n1_ n2_ n3_ n4_ n5_ n6_ n7_ n8_ n9_ n10_ n11_ n12_; clear hb hbox hg; have hnb115 := NB367_361.out; have hnc115 := NB361_367.out; have hnb116 := NB367_362.out; have hnc116 := NB362_367.out; have hnb117 := NB367_366.out; have hnc117 := NB366_367.out; have hcz118_0 : w114.cell? ⟨gb367, 0, none⟩ = some (.int .i64 0) := (blk_cell BK367.out 0).trans rfl; have hcz118_1 : w114.cell? ⟨gb367, 1, none⟩ = some (.int .i64 0) := (blk_cell BK367.out 1).trans rfl; have hfz118_0 := blk_frozen BK367.out 0; have hfz118_1 := blk_frozen BK367.out 1; have hnb119 := NB361_362.out; have hnc119 := NB362_361.out; have hnb120 := NB361_366.out; have hnc120 := NB366_361.out; have hcz121_0 : w114.cell? ⟨gb361, 0, none⟩ = some (.string t357) := (blk_cell BK361.out 0).trans rfl; have hcz121_1 : w114.cell? ⟨gb361, 1, none⟩ = some (.string t358) := (blk_cell BK361.out 1).trans rfl; have hfz121_0 := blk_frozen BK361.out 0; have hfz121_1 := blk_frozen BK361.out 1) | ((with_reducible refine gate_callee (f := 6) rfl ?_); refine goesL_ (some 167) rfl rfl Tryz.func6 (by kernel_rfl) rfl #[.agg #[.string t357, .string t358], .agg #[.int .i64 x23_3, .int .i64 16]] rfl lm ?_; (with_reducible refine (impl_ValueOf.calls t357 t358 x23_3 16 t368 t369 true _ A107.out).mono ?_); rintro e w122 ⟨rfl, hb⟩; refine ⟨_, rfl, ?_⟩; have n0_ := Aside0.mk (blk_below (g := gb361) (o := .cells #[.string t357, .string t358] 25 (0, 0)) (by (with_reducible repeat (first | refine blk_drewN ?_ _ | refine blk_drew ?_ | refine blk_alloc ?_ _)); refine blk_far ?_ NB361_367.out _; (with_reducible repeat (first | refine blk_drewN ?_ _ | refine blk_drew ?_ | refine blk_alloc ?_ _)); refine blk_far ?_ NB361_367.out _; exact lb BK361.out) hb); have n1_ := Aside0.mk (blk_below (g := gb362) (o := .cells #[.string t359, .string t360] 25 (0, 0)) (by (with_reducible repeat (first | refine blk_drewN ?_ _ | refine blk_drew ?_ | refine blk_alloc ?_ _)); refine blk_far ?_ NB362_367.out _; (with_reducible repeat (first | refine blk_drewN ?_ _ | refine blk_drew ?_ | refine blk_alloc ?_ _)); refine blk_far ?_ NB362_367.out _; exact lb BK362.out) hb); have n2_ := Aside0.mk (blk_below (g := gb366) (o := .cells #[.string t363, .string t364] 25 (0, 0)) (by (with_reducible repeat (first | refine blk_drewN ?_ _ | refine blk_drew ?_ | refine blk_alloc ?_ _)); refine blk_far ?_ NB366_367.out _; (with_reducible repeat (first | refine blk_drewN ?_ _ | refine blk_drew ?_ | refine blk_alloc ?_ _)); refine blk_far ?_ NB366_367.out _; exact lb BK366.out) hb); have n3_ := Aside0.mk (blk_below (g := gb367) (o := .cells #[.int .i64 x23_3, .int .i64 16] 27 (0, 0)) (by (with_reducible repeat (first | refine blk_drewN ?_ _ | refine blk_drew ?_ | refine blk_alloc ?_ _)); refine blk_put (cs := #[.int .i64 x23_3, .int .i64 0]) ?_ 1 _ rfl; (with_reducible repeat (first | refine blk_drewN ?_ _ | refine blk_drew ?_ | refine blk_alloc ?_ _)); refine blk_put (cs := #[.int .i64 0, .int .i64 0]) ?_ 0 _ rfl; exact lb BK367.out) hb); have n4_ := Aside0.mk (below_step (lB HB.out) hb); clear BK361 BK362 BK366 BK367 HB; have BK361 := n0_; have BK362 := n1_; have BK366 := n2_; have BK367 := n3_; have HB := n4_; clear n0_ n1_ n2_ n3_ n4_; (try clear hb); (try clear hb2); (try clear hk); (try clear hi)) | ((with_reducible refine gate_dst (N := 25) rfl ?_); refine box_event ?hg (N := 25) ?hd (cs := #[.int .i64 0, .int .i64 0]) (t := 27) ?hr ?_; (case hd => rfl); (case hg => rfl); (case hr => exact lr); intro gb371 hg w123 hbox hb; have n0_ := Aside0.mk (blk_below (lb BK361.out) hb); have n1_ := Aside0.mk (blk_below (lb BK362.out) hb); have n2_ := Aside0.mk (blk_below (lb BK366.out) hb); have n3_ := Aside0.mk (blk_below (lb BK367.out) hb); have n4_ := Aside0.mk (below_step (lB HB.out) hb); have n5_ := Aside0.mk (hbox); have n6_ := gw hg (lB HB.out); have n7_ := gw hg (lB HB.out); have n8_ := na hg (lb BK361.out); have n9_ := nz hg (lb BK361.out); have n10_ := na hg (lb BK362.out); have n11_ := nz hg (lb BK362.out); have n12_ := na hg (lb BK366.out); have n13_ := nz hg (lb BK366.out); have n14_ := na hg (lb BK367.out); have n15_ := nz hg (lb BK367.out); clear BK361 BK362 BK366 BK367 HB; have BK361 := n0_; have BK362 := n1_; have BK366 := n2_; have BK367 := n3_; have HB := n4_; have BK371 := n5_; have GW371 := n6_; have GE371 := n7_; have NB361_371 := n8_; have NB371_361 := n9_; have NB362_371 := n10_; have NB371_362 := n11_; have NB366_371 := n12_; have NB371_366 := n13_; have NB367_371 := n14_; have NB371_367 := n15_; clear n0_ n1_ n2_ n3_ n4_ n5_ n6_ n7_ n8_ n9_ n10_ n11_ n12_ n13_ n14_ n15_; clear hb hbox hg; have hnb124 := NB371_361.out; have hnc124 := NB361_371.out; have hnb125 := NB371_362.out; have hnc125 := NB362_371.out; have hnb126 := NB371_366.out; have hnc126 := NB366_371.out; have hnb127 := NB371_367.out; have hnc127 := NB367_371.out; have hcz128_0 : w123.cell? ⟨gb371, 0, none⟩ = some (.int .i64 0) := (blk_cell BK371.out 0).trans rfl; have hcz128_1 : w123.cell? ⟨gb371, 1, none⟩ = some (.int .i64 0) := (blk_cell BK371.out 1).trans rfl; have hfz128_0 := blk_frozen BK371.out 0; have hfz128_1 := blk_frozen BK371.out 1; have hnb129 := NB362_366.out; have hnc129 := NB366_362.out; have hcz130_0 : w123.cell? ⟨gb362, 0, none⟩ = some (.string t359) := (blk_cell BK362.out 0).trans rfl; have hcz130_1 : w123.cell? ⟨gb362, 1, none⟩ = some (.string t360) := (blk_cell BK362.out 1).trans rfl; have hfz130_0 := blk_frozen BK362.out 0; have hfz130_1 := blk_frozen BK362.out 1) | ((with_reducible refine gate_callee (f := 6) rfl ?_); refine goesL_ (some 173) rfl rfl Tryz.func6 (by kernel_rfl) rfl #[.agg #[.string t359, .string t360], .agg #[.int .i64 t368, .int .i64 t369]] rfl lm ?_; (with_reducible refine (impl_ValueOf.calls t359 t360 t368 t369 t372 t373 true _ A108.out).mono ?_); rintro e w131 ⟨rfl, hb⟩; refine ⟨_, rfl, ?_⟩; have n0_ := Aside0.mk (blk_below (g := gb361) (o := .cells #[.string t357, .string t358] 25 (0, 0)) (by (with_reducible repeat (first | refine blk_drewN ?_ _ | refine blk_drew ?_ | refine blk_alloc ?_ _)); refine blk_far ?_ NB361_371.out _; (with_reducible repeat (first | refine blk_drewN ?_ _ | refine blk_drew ?_ | refine blk_alloc ?_ _)); refine blk_far ?_ NB361_371.out _; exact lb BK361.out) hb); have n1_ := Aside0.mk (blk_below (g := gb362) (o := .cells #[.string t359, .string t360] 25 (0, 0)) (by (with_reducible repeat (first | refine blk_drewN ?_ _ | refine blk_drew ?_ | refine blk_alloc ?_ _)); refine blk_far ?_ NB362_371.out _; (with_reducible repeat (first | refine blk_drewN ?_ _ | refine blk_drew ?_ | refine blk_alloc ?_ _)); refine blk_far ?_ NB362_371.out _; exact lb BK362.out) hb); have n2_ := Aside0.mk (blk_below (g := gb366) (o := .cells #[.string t363, .string t364] 25 (0, 0)) (by (with_reducible repeat (first | refine blk_drewN ?_ _ | refine blk_drew ?_ | refine blk_alloc ?_ _)); refine blk_far ?_ NB366_371.out _; (with_reducible repeat (first | refine blk_drewN ?_ _ | refine blk_drew ?_ | refine blk_alloc ?_ _)); refine blk_far ?_ NB366_371.out _; exact lb BK366.out) hb); have n3_ := Aside0.mk (blk_below (g := gb367) (o := .cells #[.int .i64 x23_3, .int .i64 16] 27 (0, 0)) (by (with_reducible repeat (first | refine blk_drewN ?_ _ | refine blk_drew ?_ | refine blk_alloc ?_ _)); refine blk_far ?_ NB367_371.out _; (with_reducible repeat (first | refine blk_drewN ?_ _ | refine blk_drew ?_ | refine blk_alloc ?_ _)); refine blk_far ?_ NB367_371.out _; exact lb BK367.out) hb); have n4_ := Aside0.mk (blk_below (g := gb371) (o := .cells #[.int .i64 t368, .int .i64 t369] 27 (0, 0)) (by (with_reducible repeat (first | refine blk_drewN ?_ _ | refine blk_drew ?_ | refine blk_alloc ?_ _)); refine blk_put (cs := #[.int .i64 t368, .int .i64 0]) ?_ 1 _ rfl; (with_reducible repeat (first | refine blk_drewN ?_ _ | refine blk_drew ?_ | refine blk_alloc ?_ _)); refine blk_put (cs := #[.int .i64 0, .int .i64 0]) ?_ 0 _ rfl; exact lb BK371.out) hb); have n5_ := Aside0.mk (below_step (lB HB.out) hb); clear BK361 BK362 BK366 BK367 BK371 HB; have BK361 := n0_; have BK362 := n1_; have BK366 := n2_; have BK367 := n3_; have BK371 := n4_; have HB := n5_; clear n0_ n1_ n2_ n3_ n4_ n5_; (try clear hb); (try clear hb2); (try clear hk); (try clear hi)) | ((with_reducible refine gate_dst (N := 27) rfl ?_); refine box_event ?hg (N := 27) ?hd (cs := #[.int .i64 0, .int .i64 0]) (t := 27) ?hr ?_; (case hd => rfl); (case hg => rfl); (case hr => exact lr); intro gb375 hg w132 hbox hb; have n0_ := Aside0.mk (blk_below (lb BK361.out) hb); have n1_ := Aside0.mk (blk_below (lb BK362.out) hb); have n2_ := Aside0.mk (blk_below (lb BK366.out) hb); have n3_ := Aside0.mk (blk_below (lb BK367.out) hb); have n4_ := Aside0.mk (blk_below (lb BK371.out) hb); have n5_ := Aside0.mk (below_step (lB HB.out) hb); have n6_ := Aside0.mk (hbox); have n7_ := gw hg (lB HB.out); have n8_ := gw hg (lB HB.out); have n9_ := na hg (lb BK361.out); have n10_ := nz hg (lb BK361.out); have n11_ := na hg (lb BK362.out); have n12_ := nz hg (lb BK362.out); have n13_ := na hg (lb BK366.out); have n14_ := nz hg (lb BK366.out); have n15_ := na hg (lb BK367.out); have n16_ := nz hg (lb BK367.out); have n17_ := na hg (lb BK371.out); have n18_ := nz hg (lb BK371.out); clear BK361 BK362 BK366 BK367 BK371 HB; have BK361 := n0_; have BK362 := n1_; have BK366 := n2_; have BK367 := n3_; have BK371 := n4_; have HB := n5_; have BK375 := n6_; have GW375 := n7_; have GE375 := n8_; have NB361_375 := n9_; have NB375_361 := n10_; have NB362_375 := n11_; have NB375_362 := n12_; have NB366_375 := n13_; have NB375_366 := n14_; have NB367_375 := n15_; have NB375_367 := n16_; have NB371_375 := n17_; have NB375_371 := n18_; clear n0_ n1_ n2_ n3_ n4_ n5_ n6_ n7_ n8_ n9_ n10_ n11_ n12_ n13_ n14_ n15_ n16_ n17_ n18_; clear hb hbox hg; have hnb133 := NB375_361.out; have hnc133 := NB361_375.out; have hnb134 := NB375_362.out; have hnc134 := NB362_375.out; have hnb135 := NB375_366.out; have hnc135 := NB366_375.out; have hnb136 := NB375_367.out; have hnc136 := NB367_375.out; have hnb137 := NB375_371.out; have hnc137 := NB371_375.out; have hcz138_0 : w132.cell? ⟨gb375, 0, none⟩ = some (.int .i64 0) := (blk_cell BK375.out 0).trans rfl; have hcz138_1 : w132.cell? ⟨gb375, 1, none⟩ = some (.int .i64 0) := (blk_cell BK375.out 1).trans rfl; have hfz138_0 := blk_frozen BK375.out 0; have hfz138_1 := blk_frozen BK375.out 1; have hcz139_0 : w132.cell? ⟨gb366, 0, none⟩ = some (.string t363) := (blk_cell BK366.out 0).trans rfl; have hcz139_1 : w132.cell? ⟨gb366, 1, none⟩ = some (.string t364) := (blk_cell BK366.out 1).trans rfl; have hfz139_0 := blk_frozen BK366.out 0; have hfz139_1 := blk_frozen BK366.out 1; have hcz140_0 : w132.cell? ⟨gb367, 0, none⟩ = some (.int .i64 x23_3) := (blk_cell BK367.out 0).trans rfl; have hcz140_1 : w132.cell? ⟨gb367, 1, none⟩ = some (.int .i64 16) := (blk_cell BK367.out 1).trans rfl; have hfz140_0 := blk_frozen BK367.out 0; have hfz140_1 := blk_frozen BK367.out 1) | ((with_reducible refine gate_callee (f := 6) rfl ?_); refine goesL_ (some 179) rfl rfl Tryz.func6 (by kernel_rfl) rfl #[.agg #[.string t363, .string t364], .agg #[.int .i64 x23_3, .int .i64 16]] rfl lm ?_; (with_reducible refine (impl_ValueOf.calls t363 t364 x23_3 16 t376 t377 true _ A109.out).mono ?_); rintro e w141 ⟨rfl, hb⟩; refine ⟨_, rfl, ?_⟩; have n0_ := Aside0.mk (blk_below (g := gb361) (o := .cells #[.string t357, .string t358] 25 (0, 0)) (by (with_reducible repeat (first | refine blk_drewN ?_ _ | refine blk_drew ?_ | refine blk_alloc ?_ _)); refine blk_far ?_ NB361_375.out _; (with_reducible repeat (first | refine blk_drewN ?_ _ | refine blk_drew ?_ | refine blk_alloc ?_ _)); refine blk_far ?_ NB361_375.out _; exact lb BK361.out) hb); have n1_ := Aside0.mk (blk_below (g := gb362) (o := .cells #[.string t359, .string t360] 25 (0, 0)) (by (with_reducible repeat (first | refine blk_drewN ?_ _ | refine blk_drew ?_ | refine blk_alloc ?_ _)); refine blk_far ?_ NB362_375.out _; (with_reducible repeat (first | refine blk_drewN ?_ _ | refine blk_drew ?_ | refine blk_alloc ?_ _)); refine blk_far ?_ NB362_375.out _; exact lb BK362.out) hb); have n2_ := Aside0.mk (blk_below (g := gb366) (o := .cells #[.string t363, .string t364] 25 (0, 0)) (by (with_reducible repeat (first | refine blk_drewN ?_ _ | refine blk_drew ?_ | refine blk_alloc ?_ _)); refine blk_far ?_ NB366_375.out _; (with_reducible repeat (first | refine blk_drewN ?_ _ | refine blk_drew ?_ | refine blk_alloc ?_ _)); refine blk_far ?_ NB366_375.out _; exact lb BK366.out) hb); have n3_ := Aside0.mk (blk_below (g := gb367) (o := .cells #[.int .i64 x23_3, .int .i64 16] 27 (0, 0)) (by (with_reducible repeat (first | refine blk_drewN ?_ _ | refine blk_drew ?_ | refine blk_alloc ?_ _)); refine blk_far ?_ NB367_375.out _; (with_reducible repeat (first | refine blk_drewN ?_ _ | refine blk_drew ?_ | refine blk_alloc ?_ _)); refine blk_far ?_ NB367_375.out _; exact lb BK367.out) hb); have n4_ := Aside0.mk (blk_below (g := gb371) (o := .cells #[.int .i64 t368, .int .i64 t369] 27 (0, 0)) (by (with_reducible repeat (first | refine blk_drewN ?_ _ | refine blk_drew ?_ | refine blk_alloc ?_ _)); refine blk_far ?_ NB371_375.out _; (with_reducible repeat (first | refine blk_drewN ?_ _ | refine blk_drew ?_ | refine blk_alloc ?_ _)); refine blk_far ?_ NB371_375.out _; exact lb BK371.out) hb); have n5_ := Aside0.mk (blk_below (g := gb375) (o := .cells #[.int .i64 t372, .int .i64 t373] 27 (0, 0)) (by (with_reducible repeat (first | refine blk_drewN ?_ _ | refine blk_drew ?_ | refine blk_alloc ?_ _)); refine blk_put (cs := #[.int .i64 t372, .int .i64 0]) ?_ 1 _ rfl; (with_reducible repeat (first | refine blk_drewN ?_ _ | refine blk_drew ?_ | refine blk_alloc ?_ _)); refine blk_put (cs := #[.int .i64 0, .int .i64 0]) ?_ 0 _ rfl; exact lb BK375.out) hb); have n6_ := Aside0.mk (below_step (lB HB.out) hb); clear BK361 BK362 BK366 BK367 BK371 BK375 HB; have BK361 := n0_; have BK362 := n1_; have BK366 := n2_; have BK367 := n3_; have BK371 := n4_; have BK375 := n5_; have HB := n6_; clear n0_ n1_ n2_ n3_ n4_ n5_ n6_; (try clear hb); (try clear hb2); (try clear hk); (try clear hi)) | ((with_reducible refine gate_dst (N := 29) rfl ?_); refine box_event ?hg (N := 29) ?hd (cs := #[.int .i64 0, .int .i64 0]) (t := 27) ?hr ?_; (case hd => rfl); (case hg => rfl); (case hr => exact lr); intro gb379 hg w142 hbox hb; have n0_ := Aside0.mk (blk_below (lb BK361.out) hb); have n1_ := Aside0.mk (blk_below (lb BK362.out) hb); have n2_ := Aside0.mk (blk_below (lb BK366.out) hb); have n3_ := Aside0.mk (blk_below (lb BK367.out) hb); have n4_ := Aside0.mk (blk_below (lb BK371.out) hb); have n5_ := Aside0.mk (blk_below (lb BK375.out) hb); have n6_ := Aside0.mk (below_step (lB HB.out) hb); have n7_ := Aside0.mk (hbox); have n8_ := gw hg (lB HB.out); have n9_ := gw hg (lB HB.out); have n10_ := na hg (lb BK361.out); have n11_ := nz hg (lb BK361.out); have n12_ := na hg (lb BK362.out); have n13_ := nz hg (lb BK362.out); have n14_ := na hg (lb BK366.out); have n15_ := nz hg (lb BK366.out); have n16_ := na hg (lb BK367.out); have n17_ := nz hg (lb BK367.out); have n18_ := na hg (lb BK371.out); have n19_ := nz hg (lb BK371.out); have n20_ := na hg (lb BK375.out); have n21_ := nz hg (lb BK375.out); clear BK361 BK362 BK366 BK367 BK371 BK375 HB; have BK361 := n0_; have BK362 := n1_; have BK366 := n2_; have BK367 := n3_; have BK371 := n4_; have BK375 := n5_; have HB := n6_; have BK379 := n7_; have GW379 := n8_; have GE379 := n9_; have NB361_379 := n10_; have NB379_361 := n11_; have NB362_379 := n12_; have NB379_362 := n13_; have NB366_379 := n14_; have NB379_366 := n15_; have NB367_379 := n16_; have NB379_367 := n17_; have NB371_379 := n18_; have NB379_371 := n19_; have NB375_379 := n20_; have NB379_375 := n21_; clear n0_ n1_ n2_ n3_ n4_ n5_ n6_ n7_ n8_ n9_ n10_ n11_ n12_ n13_ n14_ n15_ n16_ n17_ n18_ n19_ n20_ n21_; clear hb hbox hg; have hnb143 := NB379_361.out; have hnc143 := NB361_379.out; have hnb144 := NB379_362.out; have hnc144 := NB362_379.out; have hnb145 := NB379_366.out; have hnc145 := NB366_379.out; have hnb146 := NB379_367.out; have hnc146 := NB367_379.out; have hnb147 := NB379_371.out; have hnc147 := NB371_379.out; have hnb148 := NB379_375.out; have hnc148 := NB375_379.out; have hcz149_0 : w142.cell? ⟨gb379, 0, none⟩ = some (.int .i64 0) := (blk_cell BK379.out 0).trans rfl; have hcz149_1 : w142.cell? ⟨gb379, 1, none⟩ = some (.int .i64 0) := (blk_cell BK379.out 1).trans rfl; have hfz149_0 := blk_frozen BK379.out 0; have hfz149_1 := blk_frozen BK379.out 1; have hcz150_0 : w142.cell? ⟨gb375, 0, none⟩ = some (.int .i64 t372) := (blk_cell BK375.out 0).trans rfl; have hcz150_1 : w142.cell? ⟨gb375, 1, none⟩ = some (.int .i64 t373) := (blk_cell BK375.out 1).trans rfl; have hfz150_0 := blk_frozen BK375.out 0; have hfz150_1 := blk_frozen BK375.out 1))
                  go_roundg k3
                  case measure => have := HJ7.out; have := HJ36.out; have := HK3.out; omega
                  case rel => exact ⟨(wrap64 (x23_3 + 2)), (by first | rfl | (simp; done) | (simp [*]; done)), H', ⟨by have := HJ7.out; have := HJ36.out; have := HK3.out; omega⟩, ⟨by (with_reducible repeat (first | refine blk_drewN ?_ _ | refine blk_drew ?_ | refine blk_alloc ?_ _)); refine blk_far ?_ NB361_379.out _; (with_reducible repeat (first | refine blk_drewN ?_ _ | refine blk_drew ?_ | refine blk_alloc ?_ _)); refine blk_far ?_ NB361_379.out _; exact lb BK361.out⟩, ⟨by (with_reducible repeat (first | refine blk_drewN ?_ _ | refine blk_drew ?_ | refine blk_alloc ?_ _)); refine blk_far ?_ NB362_379.out _; (with_reducible repeat (first | refine blk_drewN ?_ _ | refine blk_drew ?_ | refine blk_alloc ?_ _)); refine blk_far ?_ NB362_379.out _; exact lb BK362.out⟩, ⟨by (with_reducible repeat (first | refine blk_drewN ?_ _ | refine blk_drew ?_ | refine blk_alloc ?_ _)); refine blk_far ?_ NB366_379.out _; (with_reducible repeat (first | refine blk_drewN ?_ _ | refine blk_drew ?_ | refine blk_alloc ?_ _)); refine blk_far ?_ NB366_379.out _; exact lb BK366.out⟩, ⟨by exact lB HB.out⟩⟩
              · replace c112 := Bool.eq_false_iff.mpr c112
                subst c112
                have H1 : (some false) = some r := by rw [if_neg (show ¬ (false = true) by decide)] at H; exact H
                clear H
                have H := H1
                clear H1
                exact absurd ((Option.some.inj H).trans HRT.out) (by decide)
            · replace c111 := Bool.eq_false_iff.mpr c111
              subst c111
              have H1 : (laws_FnMapsOfPairs.l0 k3 l0 l1 (wrap64 (x23_3 + 2)) t357 t358 t359 t360 t363 t364) = some r := by rw [if_neg (show ¬ (false = true) by decide)] at H; exact H
              clear H
              have H := H1
              clear H1
              have H' := Aside0.mk H
              clear H
              go_wp2_with (first | ((with_reducible refine gate_dst (N := 24) rfl ?_); refine box_event ?hg (N := 24) ?hd (cs := #[.int .i64 0, .int .i64 0]) (t := 27) ?hr ?_; (case hd => rfl); (case hg => rfl); (case hr => exact lr); intro gb367 hg w151 hbox hb; have n0_ := Aside0.mk (blk_below (lb BK361.out) hb); have n1_ := Aside0.mk (blk_below (lb BK362.out) hb); have n2_ := Aside0.mk (blk_below (lb BK366.out) hb); have n3_ := Aside0.mk (below_step (lB HB.out) hb); have n4_ := Aside0.mk (hbox); have n5_ := gw hg (lB HB.out); have n6_ := gw hg (lB HB.out); have n7_ := na hg (lb BK361.out); have n8_ := nz hg (lb BK361.out); have n9_ := na hg (lb BK362.out); have n10_ := nz hg (lb BK362.out); have n11_ := na hg (lb BK366.out); have n12_ := nz hg (lb BK366.out); clear BK361 BK362 BK366 HB; have BK361 := n0_; have BK362 := n1_; have BK366 := n2_; have HB := n3_; have BK367 := n4_; have GW367 := n5_; have GE367 := n6_; have NB361_367 := n7_; have NB367_361 := n8_; have NB362_367 := n9_; have NB367_362 := n10_; have NB366_367 := n11_; have NB367_366 := n12_; clear n0_ n1_ n2_ n3_ n4_ n5_ n6_ n7_ n8_ n9_ n10_ n11_ n12_; clear hb hbox hg; have hnb152 := NB367_361.out; have hnc152 := NB361_367.out; have hnb153 := NB367_362.out; have hnc153 := NB362_367.out; have hnb154 := NB367_366.out; have hnc154 := NB366_367.out; have hcz155_0 : w151.cell? ⟨gb367, 0, none⟩ = some (.int .i64 0) := (blk_cell BK367.out 0).trans rfl; have hcz155_1 : w151.cell? ⟨gb367, 1, none⟩ = some (.int .i64 0) := (blk_cell BK367.out 1).trans rfl; have hfz155_0 := blk_frozen BK367.out 0; have hfz155_1 := blk_frozen BK367.out 1; have hnb156 := NB361_362.out; have hnc156 := NB362_361.out; have hnb157 := NB361_366.out; have hnc157 := NB366_361.out; have hcz158_0 : w151.cell? ⟨gb361, 0, none⟩ = some (.string t357) := (blk_cell BK361.out 0).trans rfl; have hcz158_1 : w151.cell? ⟨gb361, 1, none⟩ = some (.string t358) := (blk_cell BK361.out 1).trans rfl; have hfz158_0 := blk_frozen BK361.out 0; have hfz158_1 := blk_frozen BK361.out 1) | ((with_reducible refine gate_callee (f := 6) rfl ?_); refine goesL_ (some 167) rfl rfl Tryz.func6 (by kernel_rfl) rfl #[.agg #[.string t357, .string t358], .agg #[.int .i64 x23_3, .int .i64 16]] rfl lm ?_; (with_reducible refine (impl_ValueOf.calls t357 t358 x23_3 16 t368 t369 true _ A107.out).mono ?_); rintro e w159 ⟨rfl, hb⟩; refine ⟨_, rfl, ?_⟩; have n0_ := Aside0.mk (blk_below (g := gb361) (o := .cells #[.string t357, .string t358] 25 (0, 0)) (by (with_reducible repeat (first | refine blk_drewN ?_ _ | refine blk_drew ?_ | refine blk_alloc ?_ _)); refine blk_far ?_ NB361_367.out _; (with_reducible repeat (first | refine blk_drewN ?_ _ | refine blk_drew ?_ | refine blk_alloc ?_ _)); refine blk_far ?_ NB361_367.out _; exact lb BK361.out) hb); have n1_ := Aside0.mk (blk_below (g := gb362) (o := .cells #[.string t359, .string t360] 25 (0, 0)) (by (with_reducible repeat (first | refine blk_drewN ?_ _ | refine blk_drew ?_ | refine blk_alloc ?_ _)); refine blk_far ?_ NB362_367.out _; (with_reducible repeat (first | refine blk_drewN ?_ _ | refine blk_drew ?_ | refine blk_alloc ?_ _)); refine blk_far ?_ NB362_367.out _; exact lb BK362.out) hb); have n2_ := Aside0.mk (blk_below (g := gb366) (o := .cells #[.string t363, .string t364] 25 (0, 0)) (by (with_reducible repeat (first | refine blk_drewN ?_ _ | refine blk_drew ?_ | refine blk_alloc ?_ _)); refine blk_far ?_ NB366_367.out _; (with_reducible repeat (first | refine blk_drewN ?_ _ | refine blk_drew ?_ | refine blk_alloc ?_ _)); refine blk_far ?_ NB366_367.out _; exact lb BK366.out) hb); have n3_ := Aside0.mk (blk_below (g := gb367) (o := .cells #[.int .i64 x23_3, .int .i64 16] 27 (0, 0)) (by (with_reducible repeat (first | refine blk_drewN ?_ _ | refine blk_drew ?_ | refine blk_alloc ?_ _)); refine blk_put (cs := #[.int .i64 x23_3, .int .i64 0]) ?_ 1 _ rfl; (with_reducible repeat (first | refine blk_drewN ?_ _ | refine blk_drew ?_ | refine blk_alloc ?_ _)); refine blk_put (cs := #[.int .i64 0, .int .i64 0]) ?_ 0 _ rfl; exact lb BK367.out) hb); have n4_ := Aside0.mk (below_step (lB HB.out) hb); clear BK361 BK362 BK366 BK367 HB; have BK361 := n0_; have BK362 := n1_; have BK366 := n2_; have BK367 := n3_; have HB := n4_; clear n0_ n1_ n2_ n3_ n4_; (try clear hb); (try clear hb2); (try clear hk); (try clear hi)) | ((with_reducible refine gate_dst (N := 25) rfl ?_); refine box_event ?hg (N := 25) ?hd (cs := #[.int .i64 0, .int .i64 0]) (t := 27) ?hr ?_; (case hd => rfl); (case hg => rfl); (case hr => exact lr); intro gb371 hg w160 hbox hb; have n0_ := Aside0.mk (blk_below (lb BK361.out) hb); have n1_ := Aside0.mk (blk_below (lb BK362.out) hb); have n2_ := Aside0.mk (blk_below (lb BK366.out) hb); have n3_ := Aside0.mk (blk_below (lb BK367.out) hb); have n4_ := Aside0.mk (below_step (lB HB.out) hb); have n5_ := Aside0.mk (hbox); have n6_ := gw hg (lB HB.out); have n7_ := gw hg (lB HB.out); have n8_ := na hg (lb BK361.out); have n9_ := nz hg (lb BK361.out); have n10_ := na hg (lb BK362.out); have n11_ := nz hg (lb BK362.out); have n12_ := na hg (lb BK366.out); have n13_ := nz hg (lb BK366.out); have n14_ := na hg (lb BK367.out); have n15_ := nz hg (lb BK367.out); clear BK361 BK362 BK366 BK367 HB; have BK361 := n0_; have BK362 := n1_; have BK366 := n2_; have BK367 := n3_; have HB := n4_; have BK371 := n5_; have GW371 := n6_; have GE371 := n7_; have NB361_371 := n8_; have NB371_361 := n9_; have NB362_371 := n10_; have NB371_362 := n11_; have NB366_371 := n12_; have NB371_366 := n13_; have NB367_371 := n14_; have NB371_367 := n15_; clear n0_ n1_ n2_ n3_ n4_ n5_ n6_ n7_ n8_ n9_ n10_ n11_ n12_ n13_ n14_ n15_; clear hb hbox hg; have hnb161 := NB371_361.out; have hnc161 := NB361_371.out; have hnb162 := NB371_362.out; have hnc162 := NB362_371.out; have hnb163 := NB371_366.out; have hnc163 := NB366_371.out; have hnb164 := NB371_367.out; have hnc164 := NB367_371.out; have hcz165_0 : w160.cell? ⟨gb371, 0, none⟩ = some (.int .i64 0) := (blk_cell BK371.out 0).trans rfl; have hcz165_1 : w160.cell? ⟨gb371, 1, none⟩ = some (.int .i64 0) := (blk_cell BK371.out 1).trans rfl; have hfz165_0 := blk_frozen BK371.out 0; have hfz165_1 := blk_frozen BK371.out 1; have hnb166 := NB362_366.out; have hnc166 := NB366_362.out; have hcz167_0 : w160.cell? ⟨gb362, 0, none⟩ = some (.string t359) := (blk_cell BK362.out 0).trans rfl; have hcz167_1 : w160.cell? ⟨gb362, 1, none⟩ = some (.string t360) := (blk_cell BK362.out 1).trans rfl; have hfz167_0 := blk_frozen BK362.out 0; have hfz167_1 := blk_frozen BK362.out 1) | ((with_reducible refine gate_callee (f := 6) rfl ?_); refine goesL_ (some 173) rfl rfl Tryz.func6 (by kernel_rfl) rfl #[.agg #[.string t359, .string t360], .agg #[.int .i64 t368, .int .i64 t369]] rfl lm ?_; (with_reducible refine (impl_ValueOf.calls t359 t360 t368 t369 t372 t373 false _ A108.out).mono ?_); rintro e w168 ⟨rfl, hb⟩; refine ⟨_, rfl, ?_⟩; have n0_ := Aside0.mk (blk_below (g := gb361) (o := .cells #[.string t357, .string t358] 25 (0, 0)) (by (with_reducible repeat (first | refine blk_drewN ?_ _ | refine blk_drew ?_ | refine blk_alloc ?_ _)); refine blk_far ?_ NB361_371.out _; (with_reducible repeat (first | refine blk_drewN ?_ _ | refine blk_drew ?_ | refine blk_alloc ?_ _)); refine blk_far ?_ NB361_371.out _; exact lb BK361.out) hb); have n1_ := Aside0.mk (blk_below (g := gb362) (o := .cells #[.string t359, .string t360] 25 (0, 0)) (by (with_reducible repeat (first | refine blk_drewN ?_ _ | refine blk_drew ?_ | refine blk_alloc ?_ _)); refine blk_far ?_ NB362_371.out _; (with_reducible repeat (first | refine blk_drewN ?_ _ | refine blk_drew ?_ | refine blk_alloc ?_ _)); refine blk_far ?_ NB362_371.out _; exact lb BK362.out) hb); have n2_ := Aside0.mk (blk_below (g := gb366) (o := .cells #[.string t363, .string t364] 25 (0, 0)) (by (with_reducible repeat (first | refine blk_drewN ?_ _ | refine blk_drew ?_ | refine blk_alloc ?_ _)); refine blk_far ?_ NB366_371.out _; (with_reducible repeat (first | refine blk_drewN ?_ _ | refine blk_drew ?_ | refine blk_alloc ?_ _)); refine blk_far ?_ NB366_371.out _; exact lb BK366.out) hb); have n3_ := Aside0.mk (blk_below (g := gb367) (o := .cells #[.int .i64 x23_3, .int .i64 16] 27 (0, 0)) (by (with_reducible repeat (first | refine blk_drewN ?_ _ | refine blk_drew ?_ | refine blk_alloc ?_ _)); refine blk_far ?_ NB367_371.out _; (with_reducible repeat (first | refine blk_drewN ?_ _ | refine blk_drew ?_ | refine blk_alloc ?_ _)); refine blk_far ?_ NB367_371.out _; exact lb BK367.out) hb); have n4_ := Aside0.mk (blk_below (g := gb371) (o := .cells #[.int .i64 t368, .int .i64 t369] 27 (0, 0)) (by (with_reducible repeat (first | refine blk_drewN ?_ _ | refine blk_drew ?_ | refine blk_alloc ?_ _)); refine blk_put (cs := #[.int .i64 t368, .int .i64 0]) ?_ 1 _ rfl; (with_reducible repeat (first | refine blk_drewN ?_ _ | refine blk_drew ?_ | refine blk_alloc ?_ _)); refine blk_put (cs := #[.int .i64 0, .int .i64 0]) ?_ 0 _ rfl; exact lb BK371.out) hb); have n5_ := Aside0.mk (below_step (lB HB.out) hb); clear BK361 BK362 BK366 BK367 BK371 HB; have BK361 := n0_; have BK362 := n1_; have BK366 := n2_; have BK367 := n3_; have BK371 := n4_; have HB := n5_; clear n0_ n1_ n2_ n3_ n4_ n5_; (try clear hb); (try clear hb2); (try clear hk); (try clear hi)) | ((with_reducible refine gate_dst (N := 27) rfl ?_); refine box_event ?hg (N := 27) ?hd (cs := #[.int .i64 0, .int .i64 0]) (t := 27) ?hr ?_; (case hd => rfl); (case hg => rfl); (case hr => exact lr); intro gb375 hg w169 hbox hb; have n0_ := Aside0.mk (blk_below (lb BK361.out) hb); have n1_ := Aside0.mk (blk_below (lb BK362.out) hb); have n2_ := Aside0.mk (blk_below (lb BK366.out) hb); have n3_ := Aside0.mk (blk_below (lb BK367.out) hb); have n4_ := Aside0.mk (blk_below (lb BK371.out) hb); have n5_ := Aside0.mk (below_step (lB HB.out) hb); have n6_ := Aside0.mk (hbox); have n7_ := gw hg (lB HB.out); have n8_ := gw hg (lB HB.out); have n9_ := na hg (lb BK361.out); have n10_ := nz hg (lb BK361.out); have n11_ := na hg (lb BK362.out); have n12_ := nz hg (lb BK362.out); have n13_ := na hg (lb BK366.out); have n14_ := nz hg (lb BK366.out); have n15_ := na hg (lb BK367.out); have n16_ := nz hg (lb BK367.out); have n17_ := na hg (lb BK371.out); have n18_ := nz hg (lb BK371.out); clear BK361 BK362 BK366 BK367 BK371 HB; have BK361 := n0_; have BK362 := n1_; have BK366 := n2_; have BK367 := n3_; have BK371 := n4_; have HB := n5_; have BK375 := n6_; have GW375 := n7_; have GE375 := n8_; have NB361_375 := n9_; have NB375_361 := n10_; have NB362_375 := n11_; have NB375_362 := n12_; have NB366_375 := n13_; have NB375_366 := n14_; have NB367_375 := n15_; have NB375_367 := n16_; have NB371_375 := n17_; have NB375_371 := n18_; clear n0_ n1_ n2_ n3_ n4_ n5_ n6_ n7_ n8_ n9_ n10_ n11_ n12_ n13_ n14_ n15_ n16_ n17_ n18_; clear hb hbox hg; have hnb170 := NB375_361.out; have hnc170 := NB361_375.out; have hnb171 := NB375_362.out; have hnc171 := NB362_375.out; have hnb172 := NB375_366.out; have hnc172 := NB366_375.out; have hnb173 := NB375_367.out; have hnc173 := NB367_375.out; have hnb174 := NB375_371.out; have hnc174 := NB371_375.out; have hcz175_0 : w169.cell? ⟨gb375, 0, none⟩ = some (.int .i64 0) := (blk_cell BK375.out 0).trans rfl; have hcz175_1 : w169.cell? ⟨gb375, 1, none⟩ = some (.int .i64 0) := (blk_cell BK375.out 1).trans rfl; have hfz175_0 := blk_frozen BK375.out 0; have hfz175_1 := blk_frozen BK375.out 1; have hcz176_0 : w169.cell? ⟨gb366, 0, none⟩ = some (.string t363) := (blk_cell BK366.out 0).trans rfl; have hcz176_1 : w169.cell? ⟨gb366, 1, none⟩ = some (.string t364) := (blk_cell BK366.out 1).trans rfl; have hfz176_0 := blk_frozen BK366.out 0; have hfz176_1 := blk_frozen BK366.out 1; have hcz177_0 : w169.cell? ⟨gb367, 0, none⟩ = some (.int .i64 x23_3) := (blk_cell BK367.out 0).trans rfl; have hcz177_1 : w169.cell? ⟨gb367, 1, none⟩ = some (.int .i64 16) := (blk_cell BK367.out 1).trans rfl; have hfz177_0 := blk_frozen BK367.out 0; have hfz177_1 := blk_frozen BK367.out 1) | ((with_reducible refine gate_callee (f := 6) rfl ?_); refine goesL_ (some 179) rfl rfl Tryz.func6 (by kernel_rfl) rfl #[.agg #[.string t363, .string t364], .agg #[.int .i64 x23_3, .int .i64 16]] rfl lm ?_; (with_reducible refine (impl_ValueOf.calls t363 t364 x23_3 16 t376 t377 t378 _ A109.out).mono ?_); rintro e w178 ⟨rfl, hb⟩; refine ⟨_, rfl, ?_⟩; have n0_ := Aside0.mk (blk_below (g := gb361) (o := .cells #[.string t357, .string t358] 25 (0, 0)) (by (with_reducible repeat (first | refine blk_drewN ?_ _ | refine blk_drew ?_ | refine blk_alloc ?_ _)); refine blk_far ?_ NB361_375.out _; (with_reducible repeat (first | refine blk_drewN ?_ _ | refine blk_drew ?_ | refine blk_alloc ?_ _)); refine blk_far ?_ NB361_375.out _; exact lb BK361.out) hb); have n1_ := Aside0.mk (blk_below (g := gb362) (o := .cells #[.string t359, .string t360] 25 (0, 0)) (by (with_reducible repeat (first | refine blk_drewN ?_ _ | refine blk_drew ?_ | refine blk_alloc ?_ _)); refine blk_far ?_ NB362_375.out _; (with_reducible repeat (first | refine blk_drewN ?_ _ | refine blk_drew ?_ | refine blk_alloc ?_ _)); refine blk_far ?_ NB362_375.out _; exact lb BK362.out) hb); have n2_ := Aside0.mk (blk_below (g := gb366) (o := .cells #[.string t363, .string t364] 25 (0, 0)) (by (with_reducible repeat (first | refine blk_drewN ?_ _ | refine blk_drew ?_ | refine blk_alloc ?_ _)); refine blk_far ?_ NB366_375.out _; (with_reducible repeat (first | refine blk_drewN ?_ _ | refine blk_drew ?_ | refine blk_alloc ?_ _)); refine blk_far ?_ NB366_375.out _; exact lb BK366.out) hb); have n3_ := Aside0.mk (blk_below (g := gb367) (o := .cells #[.int .i64 x23_3, .int .i64 16] 27 (0, 0)) (by (with_reducible repeat (first | refine blk_drewN ?_ _ | refine blk_drew ?_ | refine blk_alloc ?_ _)); refine blk_far ?_ NB367_375.out _; (with_reducible repeat (first | refine blk_drewN ?_ _ | refine blk_drew ?_ | refine blk_alloc ?_ _)); refine blk_far ?_ NB367_375.out _; exact lb BK367.out) hb); have n4_ := Aside0.mk (blk_below (g := gb371) (o := .cells #[.int .i64 t368, .int .i64 t369] 27 (0, 0)) (by (with_reducible repeat (first | refine blk_drewN ?_ _ | refine blk_drew ?_ | refine blk_alloc ?_ _)); refine blk_far ?_ NB371_375.out _; (with_reducible repeat (first | refine blk_drewN ?_ _ | refine blk_drew ?_ | refine blk_alloc ?_ _)); refine blk_far ?_ NB371_375.out _; exact lb BK371.out) hb); have n5_ := Aside0.mk (blk_below (g := gb375) (o := .cells #[.int .i64 t372, .int .i64 t373] 27 (0, 0)) (by (with_reducible repeat (first | refine blk_drewN ?_ _ | refine blk_drew ?_ | refine blk_alloc ?_ _)); refine blk_put (cs := #[.int .i64 t372, .int .i64 0]) ?_ 1 _ rfl; (with_reducible repeat (first | refine blk_drewN ?_ _ | refine blk_drew ?_ | refine blk_alloc ?_ _)); refine blk_put (cs := #[.int .i64 0, .int .i64 0]) ?_ 0 _ rfl; exact lb BK375.out) hb); have n6_ := Aside0.mk (below_step (lB HB.out) hb); clear BK361 BK362 BK366 BK367 BK371 BK375 HB; have BK361 := n0_; have BK362 := n1_; have BK366 := n2_; have BK367 := n3_; have BK371 := n4_; have BK375 := n5_; have HB := n6_; clear n0_ n1_ n2_ n3_ n4_ n5_ n6_; (try clear hb); (try clear hb2); (try clear hk); (try clear hi)) | ((with_reducible refine gate_dst (N := 29) rfl ?_); refine box_event ?hg (N := 29) ?hd (cs := #[.int .i64 0, .int .i64 0]) (t := 27) ?hr ?_; (case hd => rfl); (case hg => rfl); (case hr => exact lr); intro gb379 hg w179 hbox hb; have n0_ := Aside0.mk (blk_below (lb BK361.out) hb); have n1_ := Aside0.mk (blk_below (lb BK362.out) hb); have n2_ := Aside0.mk (blk_below (lb BK366.out) hb); have n3_ := Aside0.mk (blk_below (lb BK367.out) hb); have n4_ := Aside0.mk (blk_below (lb BK371.out) hb); have n5_ := Aside0.mk (blk_below (lb BK375.out) hb); have n6_ := Aside0.mk (below_step (lB HB.out) hb); have n7_ := Aside0.mk (hbox); have n8_ := gw hg (lB HB.out); have n9_ := gw hg (lB HB.out); have n10_ := na hg (lb BK361.out); have n11_ := nz hg (lb BK361.out); have n12_ := na hg (lb BK362.out); have n13_ := nz hg (lb BK362.out); have n14_ := na hg (lb BK366.out); have n15_ := nz hg (lb BK366.out); have n16_ := na hg (lb BK367.out); have n17_ := nz hg (lb BK367.out); have n18_ := na hg (lb BK371.out); have n19_ := nz hg (lb BK371.out); have n20_ := na hg (lb BK375.out); have n21_ := nz hg (lb BK375.out); clear BK361 BK362 BK366 BK367 BK371 BK375 HB; have BK361 := n0_; have BK362 := n1_; have BK366 := n2_; have BK367 := n3_; have BK371 := n4_; have BK375 := n5_; have HB := n6_; have BK379 := n7_; have GW379 := n8_; have GE379 := n9_; have NB361_379 := n10_; have NB379_361 := n11_; have NB362_379 := n12_; have NB379_362 := n13_; have NB366_379 := n14_; have NB379_366 := n15_; have NB367_379 := n16_; have NB379_367 := n17_; have NB371_379 := n18_; have NB379_371 := n19_; have NB375_379 := n20_; have NB379_375 := n21_; clear n0_ n1_ n2_ n3_ n4_ n5_ n6_ n7_ n8_ n9_ n10_ n11_ n12_ n13_ n14_ n15_ n16_ n17_ n18_ n19_ n20_ n21_; clear hb hbox hg; have hnb180 := NB379_361.out; have hnc180 := NB361_379.out; have hnb181 := NB379_362.out; have hnc181 := NB362_379.out; have hnb182 := NB379_366.out; have hnc182 := NB366_379.out; have hnb183 := NB379_367.out; have hnc183 := NB367_379.out; have hnb184 := NB379_371.out; have hnc184 := NB371_379.out; have hnb185 := NB379_375.out; have hnc185 := NB375_379.out; have hcz186_0 : w179.cell? ⟨gb379, 0, none⟩ = some (.int .i64 0) := (blk_cell BK379.out 0).trans rfl; have hcz186_1 : w179.cell? ⟨gb379, 1, none⟩ = some (.int .i64 0) := (blk_cell BK379.out 1).trans rfl; have hfz186_0 := blk_frozen BK379.out 0; have hfz186_1 := blk_frozen BK379.out 1))
              go_roundg k3
              case measure => have := HJ7.out; have := HJ36.out; have := HK3.out; omega
              case rel => exact ⟨(wrap64 (x23_3 + 2)), (by first | rfl | (simp; done) | (simp [*]; done)), H', ⟨by have := HJ7.out; have := HJ36.out; have := HK3.out; omega⟩, ⟨by (with_reducible repeat (first | refine blk_drewN ?_ _ | refine blk_drew ?_ | refine blk_alloc ?_ _)); refine blk_far ?_ NB361_379.out _; (with_reducible repeat (first | refine blk_drewN ?_ _ | refine blk_drew ?_ | refine blk_alloc ?_ _)); refine blk_far ?_ NB361_379.out _; exact lb BK361.out⟩, ⟨by (with_reducible repeat (first | refine blk_drewN ?_ _ | refine blk_drew ?_ | refine blk_alloc ?_ _)); refine blk_far ?_ NB362_379.out _; (with_reducible repeat (first | refine blk_drewN ?_ _ | refine blk_drew ?_ | refine blk_alloc ?_ _)); refine blk_far ?_ NB362_379.out _; exact lb BK362.out⟩, ⟨by (with_reducible repeat (first | refine blk_drewN ?_ _ | refine blk_drew ?_ | refine blk_alloc ?_ _)); refine blk_far ?_ NB366_379.out _; (with_reducible repeat (first | refine blk_drewN ?_ _ | refine blk_drew ?_ | refine blk_alloc ?_ _)); refine blk_far ?_ NB366_379.out _; exact lb BK366.out⟩, ⟨by exact lB HB.out⟩⟩
          · replace c110 := Bool.eq_false_iff.mpr c110
            subst c110
            have H1 : (laws_FnMapsOfPairs.l0 k3 l0 l1 (wrap64 (x23_3 + 2)) t357 t358 t359 t360 t363 t364) = some r := by rw [if_neg (show ¬ (false = true) by decide)] at H; exact H
            clear H
            have H := H1
            clear H1
            have H' := Aside0.mk H
            clear H
            go_wp2_with (first | ((with_reducible refine gate_dst (N := 24) rfl ?_); refine box_event ?hg (N := 24) ?hd (cs := #[.int .i64 0, .int .i64 0]) (t := 27) ?hr ?_; (case hd => rfl); (case hg => rfl); (case hr => exact lr); intro gb367 hg w187 hbox hb; have n0_ := Aside0.mk (blk_below (lb BK361.out) hb); have n1_ := Aside0.mk (blk_below (lb BK362.out) hb); have n2_ := Aside0.mk (blk_below (lb BK366.out) hb); have n3_ := Aside0.mk (below_step (lB HB.out) hb); have n4_ := Aside0.mk (hbox); have n5_ := gw hg (lB HB.out); have n6_ := gw hg (lB HB.out); have n7_ := na hg (lb BK361.out); have n8_ := nz hg (lb BK361.out); have n9_ := na hg (lb BK362.out); have n10_ := nz hg (lb BK362.out); have n11_ := na hg (lb BK366.out); have n12_ := nz hg (lb BK366.out); clear BK361 BK362 BK366 HB; have BK361 := n0_; have BK362 := n1_; have BK366 := n2_; have HB := n3_; have BK367 := n4_; have GW367 := n5_; have GE367 := n6_; have NB361_367 := n7_; have NB367_361 := n8_; have NB362_367 := n9_; have NB367_362 := n10_; have NB366_367 := n11_; have NB367_366 := n12_; clear n0_ n1_ n2_ n3_ n4_ n5_ n6_ n7_ n8_ n9_ n10_ n11_ n12_; clear hb hbox hg; have hnb188 := NB367_361.out; have hnc188 := NB361_367.out; have hnb189 := NB367_362.out; have hnc189 := NB362_367.out; have hnb190 := NB367_366.out; have hnc190 := NB366_367.out; have hcz191_0 : w187.cell? ⟨gb367, 0, none⟩ = some (.int .i64 0) := (blk_cell BK367.out 0).trans rfl; have hcz191_1 : w187.cell? ⟨gb367, 1, none⟩ = some (.int .i64 0) := (blk_cell BK367.out 1).trans rfl; have hfz191_0 := blk_frozen BK367.out 0; have hfz191_1 := blk_frozen BK367.out 1; have hnb192 := NB361_362.out; have hnc192 := NB362_361.out; have hnb193 := NB361_366.out; have hnc193 := NB366_361.out; have hcz194_0 : w187.cell? ⟨gb361, 0, none⟩ = some (.string t357) := (blk_cell BK361.out 0).trans rfl; have hcz194_1 : w187.cell? ⟨gb361, 1, none⟩ = some (.string t358) := (blk_cell BK361.out 1).trans rfl; have hfz194_0 := blk_frozen BK361.out 0; have hfz194_1 := blk_frozen BK361.out 1) | ((with_reducible refine gate_callee (f := 6) rfl ?_); refine goesL_ (some 167) rfl rfl Tryz.func6 (by kernel_rfl) rfl #[.agg #[.string t357, .string t358], .agg #[.int .i64 x23_3, .int .i64 16]] rfl lm ?_; (with_reducible refine (impl_ValueOf.calls t357 t358 x23_3 16 t368 t369 false _ A107.out).mono ?_); rintro e w195 ⟨rfl, hb⟩; refine ⟨_, rfl, ?_⟩; have n0_ := Aside0.mk (blk_below (g := gb361) (o := .cells #[.string t357, .string t358] 25 (0, 0)) (by (with_reducible repeat (first | refine blk_drewN ?_ _ | refine blk_drew ?_ | refine blk_alloc ?_ _)); refine blk_far ?_ NB361_367.out _; (with_reducible repeat (first | refine blk_drewN ?_ _ | refine blk_drew ?_ | refine blk_alloc ?_ _)); refine blk_far ?_ NB361_367.out _; exact lb BK361.out) hb); have n1_ := Aside0.mk (blk_below (g := gb362) (o := .cells #[.string t359, .string t360] 25 (0, 0)) (by (with_reducible repeat (first | refine blk_drewN ?_ _ | refine blk_drew ?_ | refine blk_alloc ?_ _)); refine blk_far ?_ NB362_367.out _; (with_reducible repeat (first | refine blk_drewN ?_ _ | refine blk_drew ?_ | refine blk_alloc ?_ _)); refine blk_far ?_ NB362_367.out _; exact lb BK362.out) hb); have n2_ := Aside0.mk (blk_below (g := gb366) (o := .cells #[.string t363, .string t364] 25 (0, 0)) (by (with_reducible repeat (first | refine blk_drewN ?_ _ | refine blk_drew ?_ | refine blk_alloc ?_ _)); refine blk_far ?_ NB366_367.out _; (with_reducible repeat (first | refine blk_drewN ?_ _ | refine blk_drew ?_ | refine blk_alloc ?_ _)); refine blk_far ?_ NB366_367.out _; exact lb BK366.out) hb); have n3_ := Aside0.mk (blk_below (g := gb367) (o := .cells #[.int .i64 x23_3, .int .i64 16] 27 (0, 0)) (by (with_reducible repeat (first | refine blk_drewN ?_ _ | refine blk_drew ?_ | refine blk_alloc ?_ _)); refine blk_put (cs := #[.int .i64 x23_3, .int .i64 0]) ?_ 1 _ rfl; (with_reducible repeat (first | refine blk_drewN ?_ _ | refine blk_drew ?_ | refine blk_alloc ?_ _)); refine blk_put (cs := #[.int .i64 0, .int .i64 0]) ?_ 0 _ rfl; exact lb BK367.out) hb); have n4_ := Aside0.mk (below_step (lB HB.out) hb); clear BK361 BK362 BK366 BK367 HB; have BK361 := n0_; have BK362 := n1_; have BK366 := n2_; have BK367 := n3_; have HB := n4_; clear n0_ n1_ n2_ n3_ n4_; (try clear hb); (try clear hb2); (try clear hk); (try clear hi)) | ((with_reducible refine gate_dst (N := 25) rfl ?_); refine box_event ?hg (N := 25) ?hd (cs := #[.int .i64 0, .int .i64 0]) (t := 27) ?hr ?_; (case hd => rfl); (case hg => rfl); (case hr => exact lr); intro gb371 hg w196 hbox hb; have n0_ := Aside0.mk (blk_below (lb BK361.out) hb); have n1_ := Aside0.mk (blk_below (lb BK362.out) hb); have n2_ := Aside0.mk (blk_below (lb BK366.out) hb); have n3_ := Aside0.mk (blk_below (lb BK367.out) hb); have n4_ := Aside0.mk (below_step (lB HB.out) hb); have n5_ := Aside0.mk (hbox); have n6_ := gw hg (lB HB.out); have n7_ := gw hg (lB HB.out); have n8_ := na hg (lb BK361.out); have n9_ := nz hg (lb BK361.out); have n10_ := na hg (lb BK362.out); have n11_ := nz hg (lb BK362.out); have n12_ := na hg (lb BK366.out); have n13_ := nz hg (lb BK366.out); have n14_ := na hg (lb BK367.out); have n15_ := nz hg (lb BK367.out); clear BK361 BK362 BK366 BK367 HB; have BK361 := n0_; have BK362 := n1_; have BK366 := n2_; have BK367 := n3_; have HB := n4_; have BK371 := n5_; have GW371 := n6_; have GE371 := n7_; have NB361_371 := n8_; have NB371_361 := n9_; have NB362_371 := n10_; have NB371_362 := n11_; have NB366_371 := n12_; have NB371_366 := n13_; have NB367_371 := n14_; have NB371_367 := n15_; clear n0_ n1_ n2_ n3_ n4_ n5_ n6_ n7_ n8_ n9_ n10_ n11_ n12_ n13_ n14_ n15_; clear hb hbox hg; have hnb197 := NB371_361.out; have hnc197 := NB361_371.out; have hnb198 := NB371_362.out; have hnc198 := NB362_371.out; have hnb199 := NB371_366.out; have hnc199 := NB366_371.out; have hnb200 := NB371_367.out; have hnc200 := NB367_371.out; have hcz201_0 : w196.cell? ⟨gb371, 0, none⟩ = some (.int .i64 0) := (blk_cell BK371.out 0).trans rfl; have hcz201_1 : w196.cell? ⟨gb371, 1, none⟩ = some (.int .i64 0) := (blk_cell BK371.out 1).trans rfl; have hfz201_0 := blk_frozen BK371.out 0; have hfz201_1 := blk_frozen BK371.out 1; have hnb202 := NB362_366.out; have hnc202 := NB366_362.out; have hcz203_0 : w196.cell? ⟨gb362, 0, none⟩ = some (.string t359) := (blk_cell BK362.out 0).trans rfl; have hcz203_1 : w196.cell? ⟨gb362, 1, none⟩ = some (.string t360) := (blk_cell BK362.out 1).trans rfl; have hfz203_0 := blk_frozen BK362.out 0; have hfz203_1 := blk_frozen BK362.out 1) | ((with_reducible refine gate_callee (f := 6) rfl ?_); refine goesL_ (some 173) rfl rfl Tryz.func6 (by kernel_rfl) rfl #[.agg #[.string t359, .string t360], .agg #[.int .i64 t368, .int .i64 t369]] rfl lm ?_; (with_reducible refine (impl_ValueOf.calls t359 t360 t368 t369 t372 t373 t374 _ A108.out).mono ?_); rintro e w204 ⟨rfl, hb⟩; refine ⟨_, rfl, ?_⟩; have n0_ := Aside0.mk (blk_below (g := gb361) (o := .cells #[.string t357, .string t358] 25 (0, 0)) (by (with_reducible repeat (first | refine blk_drewN ?_ _ | refine blk_drew ?_ | refine blk_alloc ?_ _)); refine blk_far ?_ NB361_371.out _; (with_reducible repeat (first | refine blk_drewN ?_ _ | refine blk_drew ?_ | refine blk_alloc ?_ _)); refine blk_far ?_ NB361_371.out _; exact lb BK361.out) hb); have n1_ := Aside0.mk (blk_below (g := gb362) (o := .cells #[.string t359, .string t360] 25 (0, 0)) (by (with_reducible repeat (first | refine blk_drewN ?_ _ | refine blk_drew ?_ | refine blk_alloc ?_ _)); refine blk_far ?_ NB362_371.out _; (with_reducible repeat (first | refine blk_drewN ?_ _ | refine blk_drew ?_ | refine blk_alloc ?_ _)); refine blk_far ?_ NB362_371.out _; exact lb BK362.out) hb); have n2_ := Aside0.mk (blk_below (g := gb366) (o := .cells #[.string t363, .string t364] 25 (0, 0)) (by (with_reducible repeat (first | refine blk_drewN ?_ _ | refine blk_drew ?_ | refine blk_alloc ?_ _)); refine blk_far ?_ NB366_371.out _; (with_reducible repeat (first | refine blk_drewN ?_ _ | refine blk_drew ?_ | refine blk_alloc ?_ _)); refine blk_far ?_ NB366_371.out _; exact lb BK366.out) hb); have n3_ := Aside0.mk (blk_below (g := gb367) (o := .cells #[.int .i64 x23_3, .int .i64 16] 27 (0, 0)) (by (with_reducible repeat (first | refine blk_drewN ?_ _ | refine blk_drew ?_ | refine blk_alloc ?_ _)); refine blk_far ?_ NB367_371.out _; (with_reducible repeat (first | refine blk_drewN ?_ _ | refine blk_drew ?_ | refine blk_alloc ?_ _)); refine blk_far ?_ NB367_371.out _; exact lb BK367.out) hb); have n4_ := Aside0.mk (blk_below (g := gb371) (o := .cells #[.int .i64 t368, .int .i64 t369] 27 (0, 0)) (by (with_reducible repeat (first | refine blk_drewN ?_ _ | refine blk_drew ?_ | refine blk_alloc ?_ _)); refine blk_put (cs := #[.int .i64 t368, .int .i64 0]) ?_ 1 _ rfl; (with_reducible repeat (first | refine blk_drewN ?_ _ | refine blk_drew ?_ | refine blk_alloc ?_ _)); refine blk_put (cs := #[.int .i64 0, .int .i64 0]) ?_ 0 _ rfl; exact lb BK371.out) hb); have n5_ := Aside0.mk (below_step (lB HB.out) hb); clear BK361 BK362 BK366 BK367 BK371 HB; have BK361 := n0_; have BK362 := n1_; have BK366 := n2_; have BK367 := n3_; have BK371 := n4_; have HB := n5_; clear n0_ n1_ n2_ n3_ n4_ n5_; (try clear hb); (try clear hb2); (try clear hk); (try clear hi)) | ((with_reducible refine gate_dst (N := 27) rfl ?_); refine box_event ?hg (N := 27) ?hd (cs := #[.int .i64 0, .int .i64 0]) (t := 27) ?hr ?_; (case hd => rfl); (case hg => rfl); (case hr => exact lr); intro gb375 hg w205 hbox hb; have n0_ := Aside0.mk (blk_below (lb BK361.out) hb); have n1_ := Aside0.mk (blk_below (lb BK362.out) hb); have n2_ := Aside0.mk (blk_below (lb BK366.out) hb); have n3_ := Aside0.mk (blk_below (lb BK367.out) hb); have n4_ := Aside0.mk (blk_below (lb BK371.out) hb); have n5_ := Aside0.mk (below_step (lB HB.out) hb); have n6_ := Aside0.mk (hbox); have n7_ := gw hg (lB HB.out); have n8_ := gw hg (lB HB.out); have n9_ := na hg (lb BK361.out); have n10_ := nz hg (lb BK361.out); have n11_ := na hg (lb BK362.out); have n12_ := nz hg (lb BK362.out); have n13_ := na hg (lb BK366.out); have n14_ := nz hg (lb BK366.out); have n15_ := na hg (lb BK367.out); have n16_ := nz hg (lb BK367.out); have n17_ := na hg (lb BK371.out); have n18_ := nz hg (lb BK371.out); clear BK361 BK362 BK366 BK367 BK371 HB; have BK361 := n0_; have BK362 := n1_; have BK366 := n2_; have BK367 := n3_; have BK371 := n4_; have HB := n5_; have BK375 := n6_; have GW375 := n7_; have GE375 := n8_; have NB361_375 := n9_; have NB375_361 := n10_; have NB362_375 := n11_; have NB375_362 := n12_; have NB366_375 := n13_; have NB375_366 := n14_; have NB367_375 := n15_; have NB375_367 := n16_; have NB371_375 := n17_; have NB375_371 := n18_; clear n0_ n1_ n2_ n3_ n4_ n5_ n6_ n7_ n8_ n9_ n10_ n11_ n12_ n13_ n14_ n15_ n16_ n17_ n18_; clear hb hbox hg; have hnb206 := NB375_361.out; have hnc206 := NB361_375.out; have hnb207 := NB375_362.out; have hnc207 := NB362_375.out; have hnb208 := NB375_366.out; have hnc208 := NB366_375.out; have hnb209 := NB375_367.out; have hnc209 := NB367_375.out; have hnb210 := NB375_371.out; have hnc210 := NB371_375.out; have hcz211_0 : w205.cell? ⟨gb375, 0, none⟩ = some (.int .i64 0) := (blk_cell BK375.out 0).trans rfl; have hcz211_1 : w205.cell? ⟨gb375, 1, none⟩ = some (.int .i64 0) := (blk_cell BK375.out 1).trans rfl; have hfz211_0 := blk_frozen BK375.out 0; have hfz211_1 := blk_frozen BK375.out 1; have hcz212_0 : w205.cell? ⟨gb366, 0, none⟩ = some (.string t363) := (blk_cell BK366.out 0).trans rfl; have hcz212_1 : w205.cell? ⟨gb366, 1, none⟩ = some (.string t364) := (blk_cell BK366.out 1).trans rfl; have hfz212_0 := blk_frozen BK366.out 0; have hfz212_1 := blk_frozen BK366.out 1; have hcz213_0 : w205.cell? ⟨gb367, 0, none⟩ = some (.int .i64 x23_3) := (blk_cell BK367.out 0).trans rfl; have hcz213_1 : w205.cell? ⟨gb367, 1, none⟩ = some (.int .i64 16) := (blk_cell BK367.out 1).trans rfl; have hfz213_0 := blk_frozen BK367.out 0; have hfz213_1 := blk_frozen BK367.out 1) | ((with_reducible refine gate_callee (f := 6) rfl ?_); refine goesL_ (some 179) rfl rfl Tryz.func6 (by kernel_rfl) rfl #[.agg #[.string t363, .string t364], .agg #[.int .i64 x23_3, .int .i64 16]] rfl lm ?_; (with_reducible refine (impl_ValueOf.calls t363 t364 x23_3 16 t376 t377 t378 _ A109.out).mono ?_); rintro e w214 ⟨rfl, hb⟩; refine ⟨_, rfl, ?_⟩; have n0_ := Aside0.mk (blk_below (g := gb361) (o := .cells #[.string t357, .string t358] 25 (0, 0)) (by (with_reducible repeat (first | refine blk_drewN ?_ _ | refine blk_drew ?_ | refine blk_alloc ?_ _)); refine blk_far ?_ NB361_375.out _; (with_reducible repeat (first | refine blk_drewN ?_ _ | refine blk_drew ?_ | refine blk_alloc ?_ _)); refine blk_far ?_ NB361_375.out _; exact lb BK361.out) hb); have n1_ := Aside0.mk (blk_below (g := gb362) (o := .cells #[.string t359, .string t360] 25 (0, 0)) (by (with_reducible repeat (first | refine blk_drewN ?_ _ | refine blk_drew ?_ | refine blk_alloc ?_ _)); refine blk_far ?_ NB362_375.out _; (with_reducible repeat (first | refine blk_drewN ?_ _ | refine blk_drew ?_ | refine blk_alloc ?_ _)); refine blk_far ?_ NB362_375.out _; exact lb BK362.out) hb); have n2_ := Aside0.mk (blk_below (g := gb366) (o := .cells #[.string t363, .string t364] 25 (0, 0)) (by (with_reducible repeat (first | refine blk_drewN ?_ _ | refine blk_drew ?_ | refine blk_alloc ?_ _)); refine blk_far ?_ NB366_375.out _; (with_reducible repeat (first | refine blk_drewN ?_ _ | refine blk_drew ?_ | refine blk_alloc ?_ _)); refine blk_far ?_ NB366_375.out _; exact lb BK366.out) hb); have n3_ := Aside0.mk (blk_below (g := gb367) (o := .cells #[.int .i64 x23_3, .int .i64 16] 27 (0, 0)) (by (with_reducible repeat (first | refine blk_drewN ?_ _ | refine blk_drew ?_ | refine blk_alloc ?_ _)); refine blk_far ?_ NB367_375.out _; (with_reducible repeat (first | refine blk_drewN ?_ _ | refine blk_drew ?_ | refine blk_alloc ?_ _)); refine blk_far ?_ NB367_375.out _; exact lb BK367.out) hb); have n4_ := Aside0.mk (blk_below (g := gb371) (o := .cells #[.int .i64 t368, .int .i64 t369] 27 (0, 0)) (by (with_reducible repeat (first | refine blk_drewN ?_ _ | refine blk_drew ?_ | refine blk_alloc ?_ _)); refine blk_far ?_ NB371_375.out _; (with_reducible repeat (first | refine blk_drewN ?_ _ | refine blk_drew ?_ | refine blk_alloc ?_ _)); refine blk_far ?_ NB371_375.out _; exact lb BK371.out) hb); have n5_ := Aside0.mk (blk_below (g := gb375) (o := .cells #[.int .i64 t372, .int .i64 t373] 27 (0, 0)) (by (with_reducible repeat (first | refine blk_drewN ?_ _ | refine blk_drew ?_ | refine blk_alloc ?_ _)); refine blk_put (cs := #[.int .i64 t372, .int .i64 0]) ?_ 1 _ rfl; (with_reducible repeat (first | refine blk_drewN ?_ _ | refine blk_drew ?_ | refine blk_alloc ?_ _)); refine blk_put (cs := #[.int .i64 0, .int .i64 0]) ?_ 0 _ rfl; exact lb BK375.out) hb); have n6_ := Aside0.mk (below_step (lB HB.out) hb); clear BK361 BK362 BK366 BK367 BK371 BK375 HB; have BK361 := n0_; have BK362 := n1_; have BK366 := n2_; have BK367 := n3_; have BK371 := n4_; have BK375 := n5_; have HB := n6_; clear n0_ n1_ n2_ n3_ n4_ n5_ n6_; (try clear hb); (try clear hb2); (try clear hk); (try clear hi)) | ((with_reducible refine gate_dst (N := 29) rfl ?_); refine box_event ?hg (N := 29) ?hd (cs := #[.int .i64 0, .int .i64 0]) (t := 27) ?hr ?_; (case hd => rfl); (case hg => rfl); (case hr => exact lr); intro gb379 hg w215 hbox hb; have n0_ := Aside0.mk (blk_below (lb BK361.out) hb); have n1_ := Aside0.mk (blk_below (lb BK362.out) hb); have n2_ := Aside0.mk (blk_below (lb BK366.out) hb); have n3_ := Aside0.mk (blk_below (lb BK367.out) hb); have n4_ := Aside0.mk (blk_below (lb BK371.out) hb); have n5_ := Aside0.mk (blk_below (lb BK375.out) hb); have n6_ := Aside0.mk (below_step (lB HB.out) hb); have n7_ := Aside0.mk (hbox); have n8_ := gw hg (lB HB.out); have n9_ := gw hg (lB HB.out); have n10_ := na hg (lb BK361.out); have n11_ := nz hg (lb BK361.out); have n12_ := na hg (lb BK362.out); have n13_ := nz hg (lb BK362.out); have n14_ := na hg (lb BK366.out); have n15_ := nz hg (lb BK366.out); have n16_ := na hg (lb BK367.out); have n17_ := nz hg (lb BK367.out); have n18_ := na hg (lb BK371.out); have n19_ := nz hg (lb BK371.out); have n20_ := na hg (lb BK375.out); have n21_ := nz hg (lb BK375.out); clear BK361 BK362 BK366 BK367 BK371 BK375 HB; have BK361 := n0_; have BK362 := n1_; have BK366 := n2_; have BK367 := n3_; have BK371 := n4_; have BK375 := n5_; have HB := n6_; have BK379 := n7_; have GW379 := n8_; have GE379 := n9_; have NB361_379 := n10_; have NB379_361 := n11_; have NB362_379 := n12_; have NB379_362 := n13_; have NB366_379 := n14_; have NB379_366 := n15_; have NB367_379 := n16_; have NB379_367 := n17_; have NB371_379 := n18_; have NB379_371 := n19_; have NB375_379 := n20_; have NB379_375 := n21_; clear n0_ n1_ n2_ n3_ n4_ n5_ n6_ n7_ n8_ n9_ n10_ n11_ n12_ n13_ n14_ n15_ n16_ n17_ n18_ n19_ n20_ n21_; clear hb hbox hg; have hnb216 := NB379_361.out; have hnc216 := NB361_379.out; have hnb217 := NB379_362.out; have hnc217 := NB362_379.out; have hnb218 := NB379_366.out; have hnc218 := NB366_379.out; have hnb219 := NB379_367.out; have hnc219 := NB367_379.out; have hnb220 := NB379_371.out; have hnc220 := NB371_379.out; have hnb221 := NB379_375.out; have hnc221 := NB375_379.out; have hcz222_0 : w215.cell? ⟨gb379, 0, none⟩ = some (.int .i64 0) := (blk_cell BK379.out 0).trans rfl; have hcz222_1 : w215.cell? ⟨gb379, 1, none⟩ = some (.int .i64 0) := (blk_cell BK379.out 1).trans rfl; have hfz222_0 := blk_frozen BK379.out 0; have hfz222_1 := blk_frozen BK379.out 1))
            go_roundg k3
            case measure => have := HJ7.out; have := HJ36.out; have := HK3.out; omega
            case rel => exact ⟨(wrap64 (x23_3 + 2)), (by first | rfl | (simp; done) | (simp [*]; done)), H', ⟨by have := HJ7.out; have := HJ36.out; have := HK3.out; omega⟩, ⟨by (with_reducible repeat (first | refine blk_drewN ?_ _ | refine blk_drew ?_ | refine blk_alloc ?_ _)); refine blk_far ?_ NB361_379.out _; (with_reducible repeat (first | refine blk_drewN ?_ _ | refine blk_drew ?_ | refine blk_alloc ?_ _)); refine blk_far ?_ NB361_379.out _; exact lb BK361.out⟩, ⟨by (with_reducible repeat (first | refine blk_drewN ?_ _ | refine blk_drew ?_ | refine blk_alloc ?_ _)); refine blk_far ?_ NB362_379.out _; (with_reducible repeat (first | refine blk_drewN ?_ _ | refine blk_drew ?_ | refine blk_alloc ?_ _)); refine blk_far ?_ NB362_379.out _; exact lb BK362.out⟩, ⟨by (with_reducible repeat (first | refine blk_drewN ?_ _ | refine blk_drew ?_ | refine blk_alloc ?_ _)); refine blk_far ?_ NB366_379.out _; (with_reducible repeat (first | refine blk_drewN ?_ _ | refine blk_drew ?_ | refine blk_alloc ?_ _)); refine blk_far ?_ NB366_379.out _; exact lb BK366.out⟩, ⟨by exact lB HB.out⟩⟩
        · rw [if_neg c106] at H
          have c106b0 : decide (x23_3 < 16) = false := decide_eq_false c106
          clear c106
          (first | rw [c106b0] | (simp only [i64_w, i32_w]; rw [c106b0]) | skip)
          have H' := Aside0.mk H
          clear H
          go_wp2
          go_meet
          case rel => exact ⟨_, H', ⟨by have := HJ7.out; have := HJ36.out; have := HK3.out; first | omega | exact Nat.le_refl _⟩, ⟨by exact lB HB.out⟩⟩
    case rest =>
    as_aux_lemma =>
    clear HC93
    obtain ⟨kq, HA, HJ92, HB⟩ := hcut
    cases kq with
    | zero => exact absurd HA.out (by simp [laws_FnMapsOfPairs.j3])
    | succ kj92 =>
     have H := HA.out
     clear HA
     simp only [laws_FnMapsOfPairs.j3] at H
     replace H := Option.bind_eq_some_iff.mp H
     obtain ⟨⟨t380, t381, t382⟩, A2230, H⟩ := H
     (try dsimp only at H)
     have A223 := Aside0.mk A2230
     clear A2230
     replace H := Option.bind_eq_some_iff.mp H
     obtain ⟨⟨t384, t385⟩, A2240, H⟩ := H
     (try dsimp only at H)
     have A224 := Aside0.mk A2240
     clear A2240
     replace H := Option.bind_eq_some_iff.mp H
     obtain ⟨⟨t386, t387⟩, A2250, H⟩ := H
     (try dsimp only at H)
     have A225 := Aside0.mk A2250
     clear A2250
     have HC226 := Aside0.mk H
     clear H
     go_upto_region 30 with (first | ((with_reducible refine gate_callee (f := 12) rfl ?_); refine goesL_ (some 197) rfl rfl Tryz.func12 (by kernel_rfl) rfl #[.slice A1 l1.length c1] rfl lm ?_; (with_reducible refine (spec_DrawImageOfAddress.calls kj92 _ _ l1 t380 t381 t382 _ ?side1 ?side2 A223.out).mono ?_); (case side1 => repeat (first | exact (Kd.C_below HR1.out HB.out) | (with_reducible refine Kd.C_alloc ?_ _) | (with_reducible refine Kd.C_drewN ?_ _) | (with_reducible refine Kd.C_drew ?_))); (case side2 => exact HC1.out); rintro e w227 ⟨rfl, hb⟩; refine ⟨_, rfl, ?_⟩; have n0_ := Aside0.mk (below_step (lB HB.out) hb); clear HB; have HB := n0_; clear n0_; (try clear hb); (try clear hb2); (try clear hk); (try clear hi)) | ((with_reducible refine gate_dst (N := 31) rfl ?_); refine box_event ?hg (N := 31) ?hd (cs := #[.string (⟨#[]⟩ : ByteArray), .string (⟨#[]⟩ : ByteArray)]) (t := 25) ?hr ?_; (case hd => rfl); (case hg => rfl); (case hr => exact lr); intro gb383 hg w228 hbox hb; have n0_ := Aside0.mk (below_step (lB HB.out) hb); have n1_ := Aside0.mk (hbox); have n2_ := gw hg (lB HB.out); have n3_ := gw hg (lB HB.out); clear HB; have HB := n0_; have BK383 := n1_; have GW383 := n2_; have GE383 := n3_; clear n0_ n1_ n2_ n3_; clear hb hbox hg; have hcz229_0 : w228.cell? ⟨gb383, 0, none⟩ = some (.string (⟨#[]⟩ : ByteArray)) := (blk_cell BK383.out 0).trans rfl; have hcz229_1 : w228.cell? ⟨gb383, 1, none⟩ = some (.string (⟨#[]⟩ : ByteArray)) := (blk_cell BK383.out 1).trans rfl; have hfz229_0 := blk_frozen BK383.out 0; have hfz229_1 := blk_frozen BK383.out 1) | ((with_reducible refine gate_callee (f := 13) rfl ?_); refine goesL_ (some 203) rfl rfl Tryz.func13 (by kernel_rfl) rfl #[.agg #[.string t380, .string t381], .string t382] rfl lm ?_; (with_reducible refine (impl_ImageOfAddress.calls t380 t381 t382 t384 t385 _ A224.out).mono ?_); rintro e w230 ⟨rfl, hb⟩; refine ⟨_, rfl, ?_⟩; have n0_ := Aside0.mk (blk_below (g := gb383) (o := .cells #[.string t380, .string t381] 25 (0, 0)) (by (with_reducible repeat (first | refine blk_drewN ?_ _ | refine blk_drew ?_ | refine blk_alloc ?_ _)); refine blk_put (cs := #[.string t380, .string (⟨#[]⟩ : ByteArray)]) ?_ 1 _ rfl; (with_reducible repeat (first | refine blk_drewN ?_ _ | refine blk_drew ?_ | refine blk_alloc ?_ _)); refine blk_put (cs := #[.string (⟨#[]⟩ : ByteArray), .string (⟨#[]⟩ : ByteArray)]) ?_ 0 _ rfl; exact lb BK383.out) hb); have n1_ := Aside0.mk (below_step (lB HB.out) hb); clear BK383 HB; have BK383 := n0_; have HB := n1_; clear n0_ n1_; (try clear hb); (try clear hb2); (try clear hk); (try clear hi); have hcz231_0 : w230.cell? ⟨gb383, 0, none⟩ = some (.string t380) := (blk_cell BK383.out 0).trans rfl; have hcz231_1 : w230.cell? ⟨gb383, 1, none⟩ = some (.string t381) := (blk_cell BK383.out 1).trans rfl; have hfz231_0 := blk_frozen BK383.out 0; have hfz231_1 := blk_frozen BK383.out 1) | ((with_reducible refine gate_callee (f := 14) rfl ?_); refine goesL_ (some 209) rfl rfl Tryz.func14 (by kernel_rfl) rfl #[.agg #[.string t380, .string t381], .string t382] rfl lm ?_; (with_reducible refine (spec_ImageOfAddress.calls kj92 t380 t381 t382 t386 t387 _ A225.out).mono ?_); rintro e w232 ⟨rfl, hb⟩; refine ⟨_, rfl, ?_⟩; have n0_ := Aside0.mk (blk_below (lb BK383.out) hb); have n1_ := Aside0.mk (below_step (lB HB.out) hb); clear BK383 HB; have BK383 := n0_; have HB := n1_; clear n0_ n1_; (try clear hb); (try clear hb2); (try clear hk); (try clear hi)))
     (try simp only [Act.put, List.setIfInBounds_toArray, List.set_cons_zero, List.set_cons_succ])
     go_cut [219] (fun v219 wc => ∃ (kq : Nat) (x219_225 : Bool), v219 = .bool x219_225 ∧ Aside0 (laws_FnMapsOfPairs.j4 kq l0 t382 t384 t385 x219_225 t380 t381 = some r) ∧ Aside0 (kq ≤ kj92) ∧ Aside0 (wc.heap[gb383]? = some (.cells #[.string t380, .string t381] 25 (0, 0))) ∧ Aside0 (Below w.heap.size w wc))
     case first =>
      as_aux_lemma =>
      have H := HC226.out
      clear HC226
      by_cases c233 : (t385 != t387) = true
      rotate_left
      · rw [if_neg c233] at H
        have c233b0 : (t385 != t387) = false := by simpa using c233
        (try (have c233b1 : decide (t385 = t387) = true := by simpa using c233))
        (try (have c233b2 : (t385 == t387) = true := by simpa using c233))
        clear c233
        (first | rw [c233b0] | (simp only [i64_w, i32_w]; rw [c233b0]) | skip)
        have H' := Aside0.mk H
        clear H
        go_wp2
        go_meet
        case rel => exact ⟨_, ((t384.toList != t386.toList)), (by first | rfl | (simp; done) | (simp [*]; done)), H', ⟨by have := HJ7.out; have := HJ36.out; have := HJ92.out; first | omega | exact Nat.le_refl _⟩, ⟨lb BK383.out⟩, ⟨by exact lB HB.out⟩⟩
      rw [if_pos c233] at H
      have c233b0 : (t385 != t387) = true := c233
      (try (have c233b1 : decide (t385 = t387) = false := by simpa using c233))
      (try (have c233b2 : (t385 == t387) = false := by simpa using c233))
      (try (have c233b3 : ¬ (t385 = t387) := by simpa using c233))
      clear c233
      (first | rw [c233b0] | (simp only [i64_w, i32_w]; rw [c233b0]) | skip)
      have H' := Aside0.mk H
      clear H
      go_wp2
      go_meet
      case rel => exact ⟨_, (true), (by first | rfl | (simp; done) | (simp [*]; done)), H', ⟨by have := HJ7.out; have := HJ36.out; have := HJ92.out; first | omega | exact Nat.le_refl _⟩, ⟨lb BK383.out⟩, ⟨by exact lB HB.out⟩⟩
     case rest =>
     as_aux_lemma =>
     clear HC226
     (try clear c1)
     (try clear hcz229_0); (try clear hcz229_1); (try clear hcz231_0); (try clear hcz231_1)
     (try clear hfz229_0); (try clear hfz229_1); (try clear hfz231_0); (try clear hfz231_1)
     obtain ⟨kq, x219_225, rfl, HA, HJ225, BK383, HB⟩ := hcut
     cases kq with
     | zero => exact absurd HA.out (by simp [laws_FnMapsOfPairs.j4])
     | succ kj225 =>
      have H := HA.out
      clear HA
      simp only [laws_FnMapsOfPairs.j4] at H
      by_cases c234 : x219_225 = true
      · subst c234
        rw [if_pos rfl] at H
        exact absurd ((Option.some.inj H).trans HRT.out) (by decide)
      replace c234 := Bool.eq_false_iff.mpr c234
      subst c234
      rw [if_neg (show ¬ (false = true) by decide)] at H
      by_cases c235 : t385 = true
      rotate_left
      · replace c235 := Bool.eq_false_iff.mpr c235
        subst c235
        rw [if_neg (show ¬ (false = true) by decide)] at H
        replace H := Option.bind_eq_some_iff.mp H
        obtain ⟨⟨t414, t415, t416, t417⟩, A2920, H⟩ := H
        (try dsimp only at H)
        have A292 := Aside0.mk A2920
        clear A2920
        replace H := Option.bind_eq_some_iff.mp H
        obtain ⟨⟨t420, t421, t422⟩, A2930, H⟩ := H
        (try dsimp only at H)
        have A293 := Aside0.mk A2930
        clear A2930
        replace H := Option.bind_eq_some_iff.mp H
        obtain ⟨⟨t424, t425, t426⟩, A2940, H⟩ := H
        (try dsimp only at H)
        have A294 := Aside0.mk A2940
        clear A2940
        by_cases c295 : (t422 == t426) = true
        rotate_left
        · rw [if_neg c295] at H
          have c295b0 : (t422 == t426) = false := by simpa using c295
          (try (have c295b1 : decide (t422 = t426) = false := by simpa using c295))
          (try (have c295b2 : (t422 == t426) = false := by simpa using c295))
          (try (have c295b3 : ¬ (t422 = t426) := by simpa using c295))
          clear c295
          exact absurd ((Option.some.inj H).trans HRT.out) (by decide)

        rw [if_pos c295] at H
        have c295b0 : (t422 == t426) = true := c295
        (try (have c295b1 : decide (t422 = t426) = true := by simpa using c295))
        (try (have c295b2 : (t422 == t426) = true := by simpa using c295))
        clear c295
        obtain rfl := Option.some.inj H
        go_wp2_with (first | ((with_reducible refine gate_callee (f := 16) rfl ?_); refine goesL_ (some 254) rfl rfl Tryz.func16 (by kernel_rfl) rfl #[.slice A0 l0.length c0] rfl lm ?_; (with_reducible refine (spec_DrawHalfOf.calls kj225 _ _ l0 t414 t415 t416 t417 _ ?side1 ?side2 A292.out).mono ?_); (case side1 => repeat (first | exact (Kd.C_below HR0.out HB.out) | (with_reducible refine Kd.C_alloc ?_ _) | (with_reducible refine Kd.C_drewN ?_ _) | (with_reducible refine Kd.C_drew ?_))); (case side2 => exact HC0.out); rintro e w296 ⟨rfl, hb⟩; refine ⟨_, rfl, ?_⟩; have n0_ := Aside0.mk (blk_below (lb BK383.out) hb); have n1_ := Aside0.mk (below_step (lB HB.out) hb); clear BK383 HB; have BK383 := n0_; have HB := n1_; clear n0_ n1_; (try clear hb); (try clear hb2); (try clear hk); (try clear hi)) | ((with_reducible refine gate_dst (N := 43) rfl ?_); refine box_event ?hg (N := 43) ?hd (cs := #[.int .i64 0, .int .i64 0]) (t := 27) ?hr ?_; (case hd => rfl); (case hg => rfl); (case hr => exact lr); intro gb418 hg w297 hbox hb; have n0_ := Aside0.mk (blk_below (lb BK383.out) hb); have n1_ := Aside0.mk (below_step (lB HB.out) hb); have n2_ := Aside0.mk (hbox); have n3_ := gw hg (lB HB.out); have n4_ := gw hg (lB HB.out); have n5_ := na hg (lb BK383.out); have n6_ := nz hg (lb BK383.out); clear BK383 HB; have BK383 := n0_; have HB := n1_; have BK418 := n2_; have GW418 := n3_; have GE418 := n4_; have NB383_418 := n5_; have NB418_383 := n6_; clear n0_ n1_ n2_ n3_ n4_ n5_ n6_; clear hb hbox hg) | ((with_reducible refine gate_dst (N := 44) rfl ?_); refine box_event ?hg (N := 44) ?hd (cs := #[.int .i64 0, .int .i64 0]) (t := 27) ?hr ?_; (case hd => rfl); (case hg => rfl); (case hr => exact lr); intro gb419 hg w298 hbox hb; have n0_ := Aside0.mk (blk_below (lb BK383.out) hb); have n1_ := Aside0.mk (blk_below (lb BK418.out) hb); have n2_ := Aside0.mk (below_step (lB HB.out) hb); have n3_ := Aside0.mk (hbox); have n4_ := gw hg (lB HB.out); have n5_ := gw hg (lB HB.out); have n6_ := na hg (lb BK383.out); have n7_ := nz hg (lb BK383.out); have n8_ := na hg (lb BK418.out); have n9_ := nz hg (lb BK418.out); clear BK383 BK418 HB; have BK383 := n0_; have BK418 := n1_; have HB := n2_; have BK419 := n3_; have GW419 := n4_; have GE419 := n5_; have NB383_419 := n6_; have NB419_383 := n7_; have NB418_419 := n8_; have NB419_418 := n9_; clear n0_ n1_ n2_ n3_ n4_ n5_ n6_ n7_ n8_ n9_; clear hb hbox hg; have hnb299 := NB418_383.out; have hnc299 := NB383_418.out; have hnb300 := NB418_419.out; have hnc300 := NB419_418.out; have hcz301_0 : w298.cell? ⟨gb418, 0, none⟩ = some (.int .i64 0) := (blk_cell BK418.out 0).trans rfl; have hcz301_1 : w298.cell? ⟨gb418, 1, none⟩ = some (.int .i64 0) := (blk_cell BK418.out 1).trans rfl; have hfz301_0 := blk_frozen BK418.out 0; have hfz301_1 := blk_frozen BK418.out 1; have hnb302 := NB419_383.out; have hnc302 := NB383_419.out; have hcz303_0 : w298.cell? ⟨gb419, 0, none⟩ = some (.int .i64 0) := (blk_cell BK419.out 0).trans rfl; have hcz303_1 : w298.cell? ⟨gb419, 1, none⟩ = some (.int .i64 0) := (blk_cell BK419.out 1).trans rfl; have hfz303_0 := blk_frozen BK419.out 0; have hfz303_1 := blk_frozen BK419.out 1) | ((with_reducible refine gate_callee (f := 17) rfl ?_); refine goesL_ (some 260) rfl rfl Tryz.func17 (by kernel_rfl) rfl #[.agg #[.int .i64 t414, .int .i64 t415], .agg #[.int .i64 t416, .int .i64 t417]] rfl lm ?_; (with_reducible refine (impl_HalfOf.calls kj225 t414 t415 t416 t417 t420 t421 t422 _ A293.out).mono ?_); rintro e w304 ⟨rfl, hb⟩; refine ⟨_, rfl, ?_⟩; have n0_ := Aside0.mk (blk_below (g := gb383) (o := .cells #[.string t380, .string t381] 25 (0, 0)) (by (with_reducible repeat (first | refine blk_drewN ?_ _ | refine blk_drew ?_ | refine blk_alloc ?_ _)); refine blk_far ?_ NB383_419.out _; (with_reducible repeat (first | refine blk_drewN ?_ _ | refine blk_drew ?_ | refine blk_alloc ?_ _)); refine blk_far ?_ NB383_419.out _; (with_reducible repeat (first | refine blk_drewN ?_ _ | refine blk_drew ?_ | refine blk_alloc ?_ _)); refine blk_far ?_ NB383_418.out _; (with_reducible repeat (first | refine blk_drewN ?_ _ | refine blk_drew ?_ | refine blk_alloc ?_ _)); refine blk_far ?_ NB383_418.out _; exact lb BK383.out) hb); have n1_ := Aside0.mk (blk_below (g := gb418) (o := .cells #[.int .i64 t414, .int .i64 t415] 27 (0, 0)) (by (with_reducible repeat (first | refine blk_drewN ?_ _ | refine blk_drew ?_ | refine blk_alloc ?_ _)); refine blk_far ?_ NB418_419.out _; (with_reducible repeat (first | refine blk_drewN ?_ _ | refine blk_drew ?_ | refine blk_alloc ?_ _)); refine blk_far ?_ NB418_419.out _; (with_reducible repeat (first | refine blk_drewN ?_ _ | refine blk_drew ?_ | refine blk_alloc ?_ _)); refine blk_put (cs := #[.int .i64 t414, .int .i64 0]) ?_ 1 _ rfl; (with_reducible repeat (first | refine blk_drewN ?_ _ | refine blk_drew ?_ | refine blk_alloc ?_ _)); refine blk_put (cs := #[.int .i64 0, .int .i64 0]) ?_ 0 _ rfl; exact lb BK418.out) hb); have n2_ := Aside0.mk (blk_below (g := gb419) (o := .cells #[.int .i64 t416, .int .i64 t417] 27 (0, 0)) (by (with_reducible repeat (first | refine blk_drewN ?_ _ | refine blk_drew ?_ | refine blk_alloc ?_ _)); refine blk_put (cs := #[.int .i64 t416, .int .i64 0]) ?_ 1 _ rfl; (with_reducible repeat (first | refine blk_drewN ?_ _ | refine blk_drew ?_ | refine blk_alloc ?_ _)); refine blk_put (cs := #[.int .i64 0, .int .i64 0]) ?_ 0 _ rfl; (with_reducible repeat (first | refine blk_drewN ?_ _ | refine blk_drew ?_ | refine blk_alloc ?_ _)); refine blk_far ?_ NB419_418.out _; (with_reducible repeat (first | refine blk_drewN ?_ _ | refine blk_drew ?_ | refine blk_alloc ?_ _)); refine blk_far ?_ NB419_418.out _; exact lb BK419.out) hb); have n3_ := Aside0.mk (below_step (lB HB.out) hb); clear BK383 BK418 BK419 HB; have BK383 := n0_; have BK418 := n1_; have BK419 := n2_; have HB := n3_; clear n0_ n1_ n2_ n3_; (try clear hb); (try clear hb2); (try clear hk); (try clear hi)) | ((with_reducible refine gate_dst (N := 45) rfl ?_); refine box_event ?hg (N := 45) ?hd (cs := #[.int .i64 0, .int .i64 0]) (t := 27) ?hr ?_; (case hd => rfl); (case hg => rfl); (case hr => exact lr); intro gb423 hg w305 hbox hb; have n0_ := Aside0.mk (blk_below (lb BK383.out) hb); have n1_ := Aside0.mk (blk_below (lb BK418.out) hb); have n2_ := Aside0.mk (blk_below (lb BK419.out) hb); have n3_ := Aside0.mk (below_step (lB HB.out) hb); have n4_ := Aside0.mk (hbox); have n5_ := gw hg (lB HB.out); have n6_ := gw hg (lB HB.out); have n7_ := na hg (lb BK383.out); have n8_ := nz hg (lb BK383.out); have n9_ := na hg (lb BK418.out); have n10_ := nz hg (lb BK418.out); have n11_ := na hg (lb BK419.out); have n12_ := nz hg (lb BK419.out); clear BK383 BK418 BK419 HB; have BK383 := n0_; have BK418 := n1_; have BK419 := n2_; have HB := n3_; have BK423 := n4_; have GW423 := n5_; have GE423 := n6_; have NB383_423 := n7_; have NB423_383 := n8_; have NB418_423 := n9_; have NB423_418 := n10_; have NB419_423 := n11_; have NB423_419 := n12_; clear n0_ n1_ n2_ n3_ n4_ n5_ n6_ n7_ n8_ n9_ n10_ n11_ n12_; clear hb hbox hg; have hnb306 := NB423_383.out; have hnc306 := NB383_423.out; have hnb307 := NB423_418.out; have hnc307 := NB418_423.out; have hnb308 := NB423_419.out; have hnc308 := NB419_423.out; have hcz309_0 : w305.cell? ⟨gb423, 0, none⟩ = some (.int .i64 0) := (blk_cell BK423.out 0).trans rfl; have hcz309_1 : w305.cell? ⟨gb423, 1, none⟩ = some (.int .i64 0) := (blk_cell BK423.out 1).trans rfl; have hfz309_0 := blk_frozen BK423.out 0; have hfz309_1 := blk_frozen BK423.out 1; have hcz310_0 : w305.cell? ⟨gb418, 0, none⟩ = some (.int .i64 t414) := (blk_cell BK418.out 0).trans rfl; have hcz310_1 : w305.cell? ⟨gb418, 1, none⟩ = some (.int .i64 t415) := (blk_cell BK418.out 1).trans rfl; have hfz310_0 := blk_frozen BK418.out 0; have hfz310_1 := blk_frozen BK418.out 1; have hcz311_0 : w305.cell? ⟨gb419, 0, none⟩ = some (.int .i64 t416) := (blk_cell BK419.out 0).trans rfl; have hcz311_1 : w305.cell? ⟨gb419, 1, none⟩ = some (.int .i64 t417) := (blk_cell BK419.out 1).trans rfl; have hfz311_0 := blk_frozen BK419.out 0; have hfz311_1 := blk_frozen BK419.out 1) | ((with_reducible refine gate_callee (f := 18) rfl ?_); refine goesL_ (some 266) rfl rfl Tryz.func18 (by kernel_rfl) rfl #[.agg #[.int .i64 t414, .int .i64 t415], .agg #[.int .i64 t416, .int .i64 t417]] rfl lm ?_; (with_reducible refine (spec_HalfOf.calls kj225 t414 t415 t416 t417 t424 t425 t426 _ A294.out).mono ?_); rintro e w312 ⟨rfl, hb⟩; refine ⟨_, rfl, ?_⟩; have n0_ := Aside0.mk (blk_below (g := gb383) (o := .cells #[.string t380, .string t381] 25 (0, 0)) (by (with_reducible repeat (first | refine blk_drewN ?_ _ | refine blk_drew ?_ | refine blk_alloc ?_ _)); refine blk_far ?_ NB383_423.out _; (with_reducible repeat (first | refine blk_drewN ?_ _ | refine blk_drew ?_ | refine blk_alloc ?_ _)); refine blk_far ?_ NB383_423.out _; exact lb BK383.out) hb); have n1_ := Aside0.mk (blk_below (g := gb418) (o := .cells #[.int .i64 t414, .int .i64 t415] 27 (0, 0)) (by (with_reducible repeat (first | refine blk_drewN ?_ _ | refine blk_drew ?_ | refine blk_alloc ?_ _)); refine blk_far ?_ NB418_423.out _; (with_reducible repeat (first | refine blk_drewN ?_ _ | refine blk_drew ?_ | refine blk_alloc ?_ _)); refine blk_far ?_ NB418_423.out _; exact lb BK418.out) hb); have n2_ := Aside0.mk (blk_below (g := gb419) (o := .cells #[.int .i64 t416, .int .i64 t417] 27 (0, 0)) (by (with_reducible repeat (first | refine blk_drewN ?_ _ | refine blk_drew ?_ | refine blk_alloc ?_ _)); refine blk_far ?_ NB419_423.out _; (with_reducible repeat (first | refine blk_drewN ?_ _ | refine blk_drew ?_ | refine blk_alloc ?_ _)); refine blk_far ?_ NB419_423.out _; exact lb BK419.out) hb); have n3_ := Aside0.mk (blk_below (g := gb423) (o := .cells #[.int .i64 t420, .int .i64 t421] 27 (0, 0)) (by (with_reducible repeat (first | refine blk_drewN ?_ _ | refine blk_drew ?_ | refine blk_alloc ?_ _)); refine blk_put (cs := #[.int .i64 t420, .int .i64 0]) ?_ 1 _ rfl; (with_reducible repeat (first | refine blk_drewN ?_ _ | refine blk_drew ?_ | refine blk_alloc ?_ _)); refine blk_put (cs := #[.int .i64 0, .int .i64 0]) ?_ 0 _ rfl; exact lb BK423.out) hb); have n4_ := Aside0.mk (below_step (lB HB.out) hb); clear BK383 BK418 BK419 BK423 HB; have BK383 := n0_; have BK418 := n1_; have BK419 := n2_; have BK423 := n3_; have HB := n4_; clear n0_ n1_ n2_ n3_ n4_; (try clear hb); (try clear hb2); (try clear hk); (try clear hi)) | ((with_reducible refine gate_dst (N := 47) rfl ?_); refine box_event ?hg (N := 47) ?hd (cs := #[.int .i64 0, .int .i64 0]) (t := 27) ?hr ?_; (case hd => rfl); (case hg => rfl); (case hr => exact lr); intro gb427 hg w313 hbox hb; have n0_ := Aside0.mk (blk_below (lb BK383.out) hb); have n1_ := Aside0.mk (blk_below (lb BK418.out) hb); have n2_ := Aside0.mk (blk_below (lb BK419.out) hb); have n3_ := Aside0.mk (blk_below (lb BK423.out) hb); have n4_ := Aside0.mk (below_step (lB HB.out) hb); have n5_ := Aside0.mk (hbox); have n6_ := gw hg (lB HB.out); have n7_ := gw hg (lB HB.out); have n8_ := na hg (lb BK383.out); have n9_ := nz hg (lb BK383.out); have n10_ := na hg (lb BK418.out); have n11_ := nz hg (lb BK418.out); have n12_ := na hg (lb BK419.out); have n13_ := nz hg (lb BK419.out); have n14_ := na hg (lb BK423.out); have n15_ := nz hg (lb BK423.out); clear BK383 BK418 BK419 BK423 HB; have BK383 := n0_; have BK418 := n1_; have BK419 := n2_; have BK423 := n3_; have HB := n4_; have BK427 := n5_; have GW427 := n6_; have GE427 := n7_; have NB383_427 := n8_; have NB427_383 := n9_; have NB418_427 := n10_; have NB427_418 := n11_; have NB419_427 := n12_; have NB427_419 := n13_; have NB423_427 := n14_; have NB427_423 := n15_; clear n0_ n1_ n2_ n3_ n4_ n5_ n6_ n7_ n8_ n9_ n10_ n11_ n12_ n13_ n14_ n15_; clear hb hbox hg; have hnb314 := NB427_383.out; have hnc314 := NB383_427.out; have hnb315 := NB427_418.out; have hnc315 := NB418_427.out; have hnb316 := NB427_419.out; have hnc316 := NB419_427.out; have hnb317 := NB427_423.out; have hnc317 := NB423_427.out; have hcz318_0 : w313.cell? ⟨gb427, 0, none⟩ = some (.int .i64 0) := (blk_cell BK427.out 0).trans rfl; have hcz318_1 : w313.cell? ⟨gb427, 1, none⟩ = some (.int .i64 0) := (blk_cell BK427.out 1).trans rfl; have hfz318_0 := blk_frozen BK427.out 0; have hfz318_1 := blk_frozen BK427.out 1; have hcz319_0 : w313.cell? ⟨gb423, 0, none⟩ = some (.int .i64 t420) := (blk_cell BK423.out 0).trans rfl; have hcz319_1 : w313.cell? ⟨gb423, 1, none⟩ = some (.int .i64 t421) := (blk_cell BK423.out 1).trans rfl; have hfz319_0 := blk_frozen BK423.out 0; have hfz319_1 := blk_frozen BK423.out 1))
        go_ret
        exact ⟨by first | rfl | (simp [errW_none, errW_some] <;> rfl) | (simp [*, errW_none, errW_some] <;> rfl), by exact lB HB.out⟩
      subst c235
      rw [if_pos rfl] at H
      replace H := Option.bind_eq_some_iff.mp H
      obtain ⟨⟨t388, t389, t390⟩, A2360, H⟩ := H
      (try dsimp only at H)
      have A236 := Aside0.mk A2360
      clear A2360
      replace H := Option.bind_eq_some_iff.mp H
      obtain ⟨⟨t392, t393, t394⟩, A2370, H⟩ := H
      (try dsimp only at H)
      have A237 := Aside0.mk A2370
      clear A2370
      replace H := Option.bind_eq_some_iff.mp H
      obtain ⟨⟨t396, t397, t398⟩, A2380, H⟩ := H
      (try dsimp only at H)
      have A238 := Aside0.mk A2380
      clear A2380
      have HC239 := Aside0.mk H
      clear H
      go_upto_region 36 with (first | ((with_reducible refine gate_callee (f := 15) rfl ?_); refine goesL_ (some 223) rfl rfl Tryz.func15 (by kernel_rfl) rfl #[.string t382] rfl lm ?_; (with_reducible refine (impl_FractionOf.calls t382 t388 t389 t390 _ A236.out).mono ?_); rintro e w240 ⟨rfl, hb⟩; refine ⟨_, rfl, ?_⟩; have n0_ := Aside0.mk (blk_below (lb BK383.out) hb); have n1_ := Aside0.mk (below_step (lB HB.out) hb); clear BK383 HB; have BK383 := n0_; have HB := n1_; clear n0_ n1_; (try clear hb); (try clear hb2); (try clear hk); (try clear hi)) | ((with_reducible refine gate_dst (N := 37) rfl ?_); refine box_event ?hg (N := 37) ?hd (cs := #[.int .i64 0, .int .i64 0]) (t := 27) ?hr ?_; (case hd => rfl); (case hg => rfl); (case hr => exact lr); intro gb391 hg w241 hbox hb; have n0_ := Aside0.mk (blk_below (lb BK383.out) hb); have n1_ := Aside0.mk (below_step (lB HB.out) hb); have n2_ := Aside0.mk (hbox); have n3_ := gw hg (lB HB.out); have n4_ := gw hg (lB HB.out); have n5_ := na hg (lb BK383.out); have n6_ := nz hg (lb BK383.out); clear BK383 HB; have BK383 := n0_; have HB := n1_; have BK391 := n2_; have GW391 := n3_; have GE391 := n4_; have NB383_391 := n5_; have NB391_383 := n6_; clear n0_ n1_ n2_ n3_ n4_ n5_ n6_; clear hb hbox hg; have hnb242 := NB391_383.out; have hnc242 := NB383_391.out; have hcz243_0 : w241.cell? ⟨gb391, 0, none⟩ = some (.int .i64 0) := (blk_cell BK391.out 0).trans rfl; have hcz243_1 : w241.cell? ⟨gb391, 1, none⟩ = some (.int .i64 0) := (blk_cell BK391.out 1).trans rfl; have hfz243_0 := blk_frozen BK391.out 0; have hfz243_1 := blk_frozen BK391.out 1) | ((with_reducible refine gate_callee (f := 15) rfl ?_); refine goesL_ (some 228) rfl rfl Tryz.func15 (by kernel_rfl) rfl #[.string t384] rfl lm ?_; (with_reducible refine (impl_FractionOf.calls t384 t392 t393 t394 _ A237.out).mono ?_); rintro e w244 ⟨rfl, hb⟩; refine ⟨_, rfl, ?_⟩; have n0_ := Aside0.mk (blk_below (g := gb383) (o := .cells #[.string t380, .string t381] 25 (0, 0)) (by (with_reducible repeat (first | refine blk_drewN ?_ _ | refine blk_drew ?_ | refine blk_alloc ?_ _)); refine blk_far ?_ NB383_391.out _; (with_reducible repeat (first | refine blk_drewN ?_ _ | refine blk_drew ?_ | refine blk_alloc ?_ _)); refine blk_far ?_ NB383_391.out _; exact lb BK383.out) hb); have n1_ := Aside0.mk (blk_below (g := gb391) (o := .cells #[.int .i64 t388, .int .i64 t389] 27 (0, 0)) (by (with_reducible repeat (first | refine blk_drewN ?_ _ | refine blk_drew ?_ | refine blk_alloc ?_ _)); refine blk_put (cs := #[.int .i64 t388, .int .i64 0]) ?_ 1 _ rfl; (with_reducible repeat (first | refine blk_drewN ?_ _ | refine blk_drew ?_ | refine blk_alloc ?_ _)); refine blk_put (cs := #[.int .i64 0, .int .i64 0]) ?_ 0 _ rfl; exact lb BK391.out) hb); have n2_ := Aside0.mk (below_step (lB HB.out) hb); clear BK383 BK391 HB; have BK383 := n0_; have BK391 := n1_; have HB := n2_; clear n0_ n1_ n2_; (try clear hb); (try clear hb2); (try clear hk); (try clear hi)) | ((with_reducible refine gate_dst (N := 39) rfl ?_); refine box_event ?hg (N := 39) ?hd (cs := #[.int .i64 0, .int .i64 0]) (t := 27) ?hr ?_; (case hd => rfl); (case hg => rfl); (case hr => exact lr); intro gb395 hg w245 hbox hb; have n0_ := Aside0.mk (blk_below (lb BK383.out) hb); have n1_ := Aside0.mk (blk_below (lb BK391.out) hb); have n2_ := Aside0.mk (below_step (lB HB.out) hb); have n3_ := Aside0.mk (hbox); have n4_ := gw hg (lB HB.out); have n5_ := gw hg (lB HB.out); have n6_ := na hg (lb BK383.out); have n7_ := nz hg (lb BK383.out); have n8_ := na hg (lb BK391.out); have n9_ := nz hg (lb BK391.out); clear BK383 BK391 HB; have BK383 := n0_; have BK391 := n1_; have HB := n2_; have BK395 := n3_; have GW395 := n4_; have GE395 := n5_; have NB383_395 := n6_; have NB395_383 := n7_; have NB391_395 := n8_; have NB395_391 := n9_; clear n0_ n1_ n2_ n3_ n4_ n5_ n6_ n7_ n8_ n9_; clear hb hbox hg; have hnb246 := NB395_383.out; have hnc246 := NB383_395.out; have hnb247 := NB395_391.out; have hnc247 := NB391_395.out; have hcz248_0 : w245.cell? ⟨gb395, 0, none⟩ = some (.int .i64 0) := (blk_cell BK395.out 0).trans rfl; have hcz248_1 : w245.cell? ⟨gb395, 1, none⟩ = some (.int .i64 0) := (blk_cell BK395.out 1).trans rfl; have hfz248_0 := blk_frozen BK395.out 0; have hfz248_1 := blk_frozen BK395.out 1; have hcz249_0 : w245.cell? ⟨gb383, 0, none⟩ = some (.string t380) := (blk_cell BK383.out 0).trans rfl; have hcz249_1 : w245.cell? ⟨gb383, 1, none⟩ = some (.string t381) := (blk_cell BK383.out 1).trans rfl; have hfz249_0 := blk_frozen BK383.out 0; have hfz249_1 := blk_frozen BK383.out 1; have hcz250_0 : w245.cell? ⟨gb391, 0, none⟩ = some (.int .i64 t388) := (blk_cell BK391.out 0).trans rfl; have hcz250_1 : w245.cell? ⟨gb391, 1, none⟩ = some (.int .i64 t389) := (blk_cell BK391.out 1).trans rfl; have hfz250_0 := blk_frozen BK391.out 0; have hfz250_1 := blk_frozen BK391.out 1) | ((with_reducible refine gate_callee (f := 6) rfl ?_); refine goesL_ (some 234) rfl rfl Tryz.func6 (by kernel_rfl) rfl #[.agg #[.string t380, .string t381], .agg #[.int .i64 t388, .int .i64 t389]] rfl lm ?_; (with_reducible refine (impl_ValueOf.calls t380 t381 t388 t389 t396 t397 t398 _ A238.out).mono ?_); rintro e w251 ⟨rfl, hb⟩; refine ⟨_, rfl, ?_⟩; have n0_ := Aside0.mk (blk_below (g := gb383) (o := .cells #[.string t380, .string t381] 25 (0, 0)) (by (with_reducible repeat (first | refine blk_drewN ?_ _ | refine blk_drew ?_ | refine blk_alloc ?_ _)); refine blk_far ?_ NB383_395.out _; (with_reducible repeat (first | refine blk_drewN ?_ _ | refine blk_drew ?_ | refine blk_alloc ?_ _)); refine blk_far ?_ NB383_395.out _; exact lb BK383.out) hb); have n1_ := Aside0.mk (blk_below (g := gb391) (o := .cells #[.int .i64 t388, .int .i64 t389] 27 (0, 0)) (by (with_reducible repeat (first | refine blk_drewN ?_ _ | refine blk_drew ?_ | refine blk_alloc ?_ _)); refine blk_far ?_ NB391_395.out _; (with_reducible repeat (first | refine blk_drewN ?_ _ | refine blk_drew ?_ | refine blk_alloc ?_ _)); refine blk_far ?_ NB391_395.out _; exact lb BK391.out) hb); have n2_ := Aside0.mk (blk_below (g := gb395) (o := .cells #[.int .i64 t392, .int .i64 t393] 27 (0, 0)) (by (with_reducible repeat (first | refine blk_drewN ?_ _ | refine blk_drew ?_ | refine blk_alloc ?_ _)); refine blk_put (cs := #[.int .i64 t392, .int .i64 0]) ?_ 1 _ rfl; (with_reducible repeat (first | refine blk_drewN ?_ _ | refine blk_drew ?_ | refine blk_alloc ?_ _)); refine blk_put (cs := #[.int .i64 0, .int .i64 0]) ?_ 0 _ rfl; exact lb BK395.out) hb); have n3_ := Aside0.mk (below_step (lB HB.out) hb); clear BK383 BK391 BK395 HB; have BK383 := n0_; have BK391 := n1_; have BK395 := n2_; have HB := n3_; clear n0_ n1_ n2_ n3_; (try clear hb); (try clear hb2); (try clear hk); (try clear hi)) | ((with_reducible refine gate_dst (N := 41) rfl ?_); refine box_event ?hg (N := 41) ?hd (cs := #[.int .i64 0, .int .i64 0]) (t := 27) ?hr ?_; (case hd => rfl); (case hg => rfl); (case hr => exact lr); intro gb399 hg w252 hbox hb; have n0_ := Aside0.mk (blk_below (lb BK383.out) hb); have n1_ := Aside0.mk (blk_below (lb BK391.out) hb); have n2_ := Aside0.mk (blk_below (lb BK395.out) hb); have n3_ := Aside0.mk (below_step (lB HB.out) hb); have n4_ := Aside0.mk (hbox); have n5_ := gw hg (lB HB.out); have n6_ := gw hg (lB HB.out); have n7_ := na hg (lb BK383.out); have n8_ := nz hg (lb BK383.out); have n9_ := na hg (lb BK391.out); have n10_ := nz hg (lb BK391.out); have n11_ := na hg (lb BK395.out); have n12_ := nz hg (lb BK395.out); clear BK383 BK391 BK395 HB; have BK383 := n0_; have BK391 := n1_; have BK395 := n2_; have HB := n3_; have BK399 := n4_; have GW399 := n5_; have GE399 := n6_; have NB383_399 := n7_; have NB399_383 := n8_; have NB391_399 := n9_; have NB399_391 := n10_; have NB395_399 := n11_; have NB399_395 := n12_; clear n0_ n1_ n2_ n3_ n4_ n5_ n6_ n7_ n8_ n9_ n10_ n11_ n12_; clear hb hbox hg; have hnb253 := NB399_383.out; have hnc253 := NB383_399.out; have hnb254 := NB399_391.out; have hnc254 := NB391_399.out; have hnb255 := NB399_395.out; have hnc255 := NB395_399.out; have hcz256_0 : w252.cell? ⟨gb399, 0, none⟩ = some (.int .i64 0) := (blk_cell BK399.out 0).trans rfl; have hcz256_1 : w252.cell? ⟨gb399, 1, none⟩ = some (.int .i64 0) := (blk_cell BK399.out 1).trans rfl; have hfz256_0 := blk_frozen BK399.out 0; have hfz256_1 := blk_frozen BK399.out 1))
      (try simp only [Act.put, List.setIfInBounds_toArray, List.set_cons_zero, List.set_cons_succ])
      go_cut [251] (fun v251 wc => ∃ (kq : Nat) (x251_238 : Bool), v251 = .bool x251_238 ∧ Aside0 (laws_FnMapsOfPairs.j5 kq l0 x251_238 = some r) ∧ Aside0 (kq ≤ kj225) ∧ Aside0 (Below w.heap.size w wc))
      case first =>
       as_aux_lemma =>
       have H := HC239.out
       clear HC239
       by_cases c257 : t390 = true
       rotate_left
       · replace c257 := Bool.eq_false_iff.mpr c257
         subst c257
         rw [if_neg (show ¬ (false = true) by decide)] at H
         have H' := Aside0.mk H
         clear H
         go_wp2
         go_meet
         case rel => exact ⟨_, (true), (by first | rfl | (simp; done) | (simp [*]; done)), H', ⟨by have := HJ7.out; have := HJ36.out; have := HJ92.out; have := HJ225.out; first | omega | exact Nat.le_refl _⟩, ⟨by exact lB HB.out⟩⟩
       subst c257
       rw [if_pos rfl] at H
       by_cases c258 : t394 = true
       rotate_left
       · replace c258 := Bool.eq_false_iff.mpr c258
         subst c258
         rw [if_neg (show ¬ (false = true) by decide)] at H
         have H' := Aside0.mk H
         clear H
         go_wp2
         go_meet
         case rel => exact ⟨_, (true), (by first | rfl | (simp; done) | (simp [*]; done)), H', ⟨by have := HJ7.out; have := HJ36.out; have := HJ92.out; have := HJ225.out; first | omega | exact Nat.le_refl _⟩, ⟨by exact lB HB.out⟩⟩
       subst c258
       rw [if_pos rfl] at H
       by_cases c259 : t398 = true
       rotate_left
       · replace c259 := Bool.eq_false_iff.mpr c259
         subst c259
         rw [if_neg (show ¬ (false = true) by decide)] at H
         have H' := Aside0.mk H
         clear H
         go_wp2
         go_meet
         case rel => exact ⟨_, (true), (by first | rfl | (simp; done) | (simp [*]; done)), H', ⟨by have := HJ7.out; have := HJ36.out; have := HJ92.out; have := HJ225.out; first | omega | exact Nat.le_refl _⟩, ⟨by exact lB HB.out⟩⟩
       subst c259
       rw [if_pos rfl] at H
       have H' := Aside0.mk H
       clear H
       have hnb260 := NB399_383.out
       have hnc260 := NB383_399.out
       have hnb261 := NB399_391.out
       have hnc261 := NB391_399.out
       have hnb262 := NB399_395.out
       have hnc262 := NB395_399.out
       have hcz263_0 : w252.cell? ⟨gb399, 0, none⟩ = some (.int .i64 0) := (blk_cell BK399.out 0).trans rfl
       have hcz263_1 : w252.cell? ⟨gb399, 1, none⟩ = some (.int .i64 0) := (blk_cell BK399.out 1).trans rfl
       have hfz263_0 := blk_frozen BK399.out 0
       have hfz263_1 := blk_frozen BK399.out 1
       have hnb264 := NB395_383.out
       have hnc264 := NB383_395.out
       have hnb265 := NB395_391.out
       have hnc265 := NB391_395.out
       have hcz266_0 : w252.cell? ⟨gb395, 0, none⟩ = some (.int .i64 t392) := (blk_cell BK395.out 0).trans rfl
       have hcz266_1 : w252.cell? ⟨gb395, 1, none⟩ = some (.int .i64 t393) := (blk_cell BK395.out 1).trans rfl
       have hfz266_0 := blk_frozen BK395.out 0
       have hfz266_1 := blk_frozen BK395.out 1
       go_wp2
       go_meet
       case rel => exact ⟨_, ((!(t396 == t392) || (!(t397 == t393)))), (by first | rfl | (simp; done) | (simp [*]; done)), H', ⟨by have := HJ7.out; have := HJ36.out; have := HJ92.out; have := HJ225.out; first | omega | exact Nat.le_refl _⟩, ⟨by exact lB HB.out⟩⟩
      case rest =>
      as_aux_lemma =>
      clear HC239
      (try clear c234); (try clear c235)
      (try clear hcz243_0); (try clear hcz243_1); (try clear hcz248_0)
      (try clear hcz248_1); (try clear hcz249_0); (try clear hcz249_1); (try clear hcz250_0); (try clear hcz250_1); (try clear hcz256_0); (try clear hcz256_1)
      (try clear hfz243_0); (try clear hfz243_1); (try clear hfz248_0); (try clear hfz248_1); (try clear hfz249_0); (try clear hfz249_1); (try clear hfz250_0); (try clear hfz250_1); (try clear hfz256_0); (try clear hfz256_1)
      obtain ⟨kq, x251_238, rfl, HA, HJ238, HB⟩ := hcut
      cases kq with
      | zero => exact absurd HA.out (by simp [laws_FnMapsOfPairs.j5])
      | succ kj238 =>
       have H := HA.out
       clear HA
       simp only [laws_FnMapsOfPairs.j5] at H
       by_cases c267 : x251_238 = true
       · subst c267
         rw [if_pos rfl] at H
         exact absurd ((Option.some.inj H).trans HRT.out) (by decide)
       replace c267 := Bool.eq_false_iff.mpr c267
       subst c267
       rw [if_neg (show ¬ (false = true) by decide)] at H
       replace H := Option.bind_eq_some_iff.mp H
       obtain ⟨⟨t400, t401, t402, t403⟩, A2680, H⟩ := H
       (try dsimp only at H)
       have A268 := Aside0.mk A2680
       clear A2680
       replace H := Option.bind_eq_some_iff.mp H
       obtain ⟨⟨t406, t407, t408⟩, A2690, H⟩ := H
       (try dsimp only at H)
       have A269 := Aside0.mk A2690
       clear A2690
       replace H := Option.bind_eq_some_iff.mp H
       obtain ⟨⟨t410, t411, t412⟩, A2700, H⟩ := H
       (try dsimp only at H)
       have A270 := Aside0.mk A2700
       clear A2700
       by_cases c271 : (t408 == t412) = true
       rotate_left
       · rw [if_neg c271] at H
         have c271b0 : (t408 == t412) = false := by simpa using c271
         (try (have c271b1 : decide (t408 = t412) = false := by simpa using c271))
         (try (have c271b2 : (t408 == t412) = false := by simpa using c271))
         (try (have c271b3 : ¬ (t408 = t412) := by simpa using c271))
         clear c271
         exact absurd ((Option.some.inj H).trans HRT.out) (by decide)
       rw [if_pos c271] at H
       have c271b0 : (t408 == t412) = true := c271
       (try (have c271b1 : decide (t408 = t412) = true := by simpa using c271))
       (try (have c271b2 : (t408 == t412) = true := by simpa using c271))
       clear c271
       obtain rfl := Option.some.inj H
       go_wp2_with (first | ((with_reducible refine gate_callee (f := 16) rfl ?_); refine goesL_ (some 254) rfl rfl Tryz.func16 (by kernel_rfl) rfl #[.slice A0 l0.length c0] rfl lm ?_; (with_reducible refine (spec_DrawHalfOf.calls kj238 _ _ l0 t400 t401 t402 t403 _ ?side1 ?side2 A268.out).mono ?_); (case side1 => repeat (first | exact (Kd.C_below HR0.out HB.out) | (with_reducible refine Kd.C_alloc ?_ _) | (with_reducible refine Kd.C_drewN ?_ _) | (with_reducible refine Kd.C_drew ?_))); (case side2 => exact HC0.out); rintro e w272 ⟨rfl, hb⟩; refine ⟨_, rfl, ?_⟩; have n0_ := Aside0.mk (below_step (lB HB.out) hb); clear HB; have HB := n0_; clear n0_; (try clear hb); (try clear hb2); (try clear hk); (try clear hi)) | ((with_reducible refine gate_dst (N := 43) rfl ?_); refine box_event ?hg (N := 43) ?hd (cs := #[.int .i64 0, .int .i64 0]) (t := 27) ?hr ?_; (case hd => rfl); (case hg => rfl); (case hr => exact lr); intro gb404 hg w273 hbox hb; have n0_ := Aside0.mk (below_step (lB HB.out) hb); have n1_ := Aside0.mk (hbox); have n2_ := gw hg (lB HB.out); have n3_ := gw hg (lB HB.out); clear HB; have HB := n0_; have BK404 := n1_; have GW404 := n2_; have GE404 := n3_; clear n0_ n1_ n2_ n3_; clear hb hbox hg) | ((with_reducible refine gate_dst (N := 44) rfl ?_); refine box_event ?hg (N := 44) ?hd (cs := #[.int .i64 0, .int .i64 0]) (t := 27) ?hr ?_; (case hd => rfl); (case hg => rfl); (case hr => exact lr); intro gb405 hg w274 hbox hb; have n0_ := Aside0.mk (blk_below (lb BK404.out) hb); have n1_ := Aside0.mk (below_step (lB HB.out) hb); have n2_ := Aside0.mk (hbox); have n3_ := gw hg (lB HB.out); have n4_ := gw hg (lB HB.out); have n5_ := na hg (lb BK404.out); have n6_ := nz hg (lb BK404.out); clear BK404 HB; have BK404 := n0_; have HB := n1_; have BK405 := n2_; have GW405 := n3_; have GE405 := n4_; have NB404_405 := n5_; have NB405_404 := n6_; clear n0_ n1_ n2_ n3_ n4_ n5_ n6_; clear hb hbox hg; have hnb275 := NB404_405.out; have hnc275 := NB405_404.out; have hcz276_0 : w274.cell? ⟨gb404, 0, none⟩ = some (.int .i64 0) := (blk_cell BK404.out 0).trans rfl; have hcz276_1 : w274.cell? ⟨gb404, 1, none⟩ = some (.int .i64 0) := (blk_cell BK404.out 1).trans rfl; have hfz276_0 := blk_frozen BK404.out 0; have hfz276_1 := blk_frozen BK404.out 1; have hcz277_0 : w274.cell? ⟨gb405, 0, none⟩ = some (.int .i64 0) := (blk_cell BK405.out 0).trans rfl; have hcz277_1 : w274.cell? ⟨gb405, 1, none⟩ = some (.int .i64 0) := (blk_cell BK405.out 1).trans rfl; have hfz277_0 := blk_frozen BK405.out 0; have hfz277_1 := blk_frozen BK405.out 1) | ((with_reducible refine gate_callee (f := 17) rfl ?_); refine goesL_ (some 260) rfl rfl Tryz.func17 (by kernel_rfl) rfl #[.agg #[.int .i64 t400, .int .i64 t401], .agg #[.int .i64 t402, .int .i64 t403]] rfl lm ?_; (with_reducible refine (impl_HalfOf.calls kj238 t400 t401 t402 t403 t406 t407 t408 _ A269.out).mono ?_); rintro e w278 ⟨rfl, hb⟩; refine ⟨_, rfl, ?_⟩; have n0_ := Aside0.mk (blk_below (g := gb404) (o := .cells #[.int .i64 t400, .int .i64 t401] 27 (0, 0)) (by (with_reducible repeat (first | refine blk_drewN ?_ _ | refine blk_drew ?_ | refine blk_alloc ?_ _)); refine blk_far ?_ NB404_405.out _; (with_reducible repeat (first | refine blk_drewN ?_ _ | refine blk_drew ?_ | refine blk_alloc ?_ _)); refine blk_far ?_ NB404_405.out _; (with_reducible repeat (first | refine blk_drewN ?_ _ | refine blk_drew ?_ | refine blk_alloc ?_ _)); refine blk_put (cs := #[.int .i64 t400, .int .i64 0]) ?_ 1 _ rfl; (with_reducible repeat (first | refine blk_drewN ?_ _ | refine blk_drew ?_ | refine blk_alloc ?_ _)); refine blk_put (cs := #[.int .i64 0, .int .i64 0]) ?_ 0 _ rfl; exact lb BK404.out) hb); have n1_ := Aside0.mk (blk_below (g := gb405) (o := .cells #[.int .i64 t402, .int .i64 t403] 27 (0, 0)) (by (with_reducible repeat (first | refine blk_drewN ?_ _ | refine blk_drew ?_ | refine blk_alloc ?_ _)); refine blk_put (cs := #[.int .i64 t402, .int .i64 0]) ?_ 1 _ rfl; (with_reducible repeat (first | refine blk_drewN ?_ _ | refine blk_drew ?_ | refine blk_alloc ?_ _)); refine blk_put (cs := #[.int .i64 0, .int .i64 0]) ?_ 0 _ rfl; (with_reducible repeat (first | refine blk_drewN ?_ _ | refine blk_drew ?_ | refine blk_alloc ?_ _)); refine blk_far ?_ NB405_404.out _; (with_reducible repeat (first | refine blk_drewN ?_ _ | refine blk_drew ?_ | refine blk_alloc ?_ _)); refine blk_far ?_ NB405_404.out _; exact lb BK405.out) hb); have n2_ := Aside0.mk (below_step (lB HB.out) hb); clear BK404 BK405 HB; have BK404 := n0_; have BK405 := n1_; have HB := n2_; clear n0_ n1_ n2_; (try clear hb); (try clear hb2); (try clear hk); (try clear hi)) | ((with_reducible refine gate_dst (N := 45) rfl ?_); refine box_event ?hg (N := 45) ?hd (cs := #[.int .i64 0, .int .i64 0]) (t := 27) ?hr ?_; (case hd => rfl); (case hg => rfl); (case hr => exact lr); intro gb409 hg w279 hbox hb; have n0_ := Aside0.mk (blk_below (lb BK404.out) hb); have n1_ := Aside0.mk (blk_below (lb BK405.out) hb); have n2_ := Aside0.mk (below_step (lB HB.out) hb); have n3_ := Aside0.mk (hbox); have n4_ := gw hg (lB HB.out); have n5_ := gw hg (lB HB.out); have n6_ := na hg (lb BK404.out); have n7_ := nz hg (lb BK404.out); have n8_ := na hg (lb BK405.out); have n9_ := nz hg (lb BK405.out); clear BK404 BK405 HB; have BK404 := n0_; have BK405 := n1_; have HB := n2_; have BK409 := n3_; have GW409 := n4_; have GE409 := n5_; have NB404_409 := n6_; have NB409_404 := n7_; have NB405_409 := n8_; have NB409_405 := n9_; clear n0_ n1_ n2_ n3_ n4_ n5_ n6_ n7_ n8_ n9_; clear hb hbox hg; have hnb280 := NB409_404.out; have hnc280 := NB404_409.out; have hnb281 := NB409_405.out; have hnc281 := NB405_409.out; have hcz282_0 : w279.cell? ⟨gb409, 0, none⟩ = some (.int .i64 0) := (blk_cell BK409.out 0).trans rfl; have hcz282_1 : w279.cell? ⟨gb409, 1, none⟩ = some (.int .i64 0) := (blk_cell BK409.out 1).trans rfl; have hfz282_0 := blk_frozen BK409.out 0; have hfz282_1 := blk_frozen BK409.out 1; have hcz283_0 : w279.cell? ⟨gb404, 0, none⟩ = some (.int .i64 t400) := (blk_cell BK404.out 0).trans rfl; have hcz283_1 : w279.cell? ⟨gb404, 1, none⟩ = some (.int .i64 t401) := (blk_cell BK404.out 1).trans rfl; have hfz283_0 := blk_frozen BK404.out 0; have hfz283_1 := blk_frozen BK404.out 1; have hcz284_0 : w279.cell? ⟨gb405, 0, none⟩ = some (.int .i64 t402) := (blk_cell BK405.out 0).trans rfl; have hcz284_1 : w279.cell? ⟨gb405, 1, none⟩ = some (.int .i64 t403) := (blk_cell BK405.out 1).trans rfl; have hfz284_0 := blk_frozen BK405.out 0; have hfz284_1 := blk_frozen BK405.out 1) | ((with_reducible refine gate_callee (f := 18) rfl ?_); refine goesL_ (some 266) rfl rfl Tryz.func18 (by kernel_rfl) rfl #[.agg #[.int .i64 t400, .int .i64 t401], .agg #[.int .i64 t402, .int .i64 t403]] rfl lm ?_; (with_reducible refine (spec_HalfOf.calls kj238 t400 t401 t402 t403 t410 t411 t412 _ A270.out).mono ?_); rintro e w285 ⟨rfl, hb⟩; refine ⟨_, rfl, ?_⟩; have n0_ := Aside0.mk (blk_below (g := gb404) (o := .cells #[.int .i64 t400, .int .i64 t401] 27 (0, 0)) (by (with_reducible repeat (first | refine blk_drewN ?_ _ | refine blk_drew ?_ | refine blk_alloc ?_ _)); refine blk_far ?_ NB404_409.out _; (with_reducible repeat (first | refine blk_drewN ?_ _ | refine blk_drew ?_ | refine blk_alloc ?_ _)); refine blk_far ?_ NB404_409.out _; exact lb BK404.out) hb); have n1_ := Aside0.mk (blk_below (g := gb405) (o := .cells #[.int .i64 t402, .int .i64 t403] 27 (0, 0)) (by (with_reducible repeat (first | refine blk_drewN ?_ _ | refine blk_drew ?_ | refine blk_alloc ?_ _)); refine blk_far ?_ NB405_409.out _; (with_reducible repeat (first | refine blk_drewN ?_ _ | refine blk_drew ?_ | refine blk_alloc ?_ _)); refine blk_far ?_ NB405_409.out _; exact lb BK405.out) hb); have n2_ := Aside0.mk (blk_below (g := gb409) (o := .cells #[.int .i64 t406, .int .i64 t407] 27 (0, 0)) (by (with_reducible repeat (first | refine blk_drewN ?_ _ | refine blk_drew ?_ | refine blk_alloc ?_ _)); refine blk_put (cs := #[.int .i64 t406, .int .i64 0]) ?_ 1 _ rfl; (with_reducible repeat (first | refine blk_drewN ?_ _ | refine blk_drew ?_ | refine blk_alloc ?_ _)); refine blk_put (cs := #[.int .i64 0, .int .i64 0]) ?_ 0 _ rfl; exact lb BK409.out) hb); have n3_ := Aside0.mk (below_step (lB HB.out) hb); clear BK404 BK405 BK409 HB; have BK404 := n0_; have BK405 := n1_; have BK409 := n2_; have HB := n3_; clear n0_ n1_ n2_ n3_; (try clear hb); (try clear hb2); (try clear hk); (try clear hi)) | ((with_reducible refine gate_dst (N := 47) rfl ?_); refine box_event ?hg (N := 47) ?hd (cs := #[.int .i64 0, .int .i64 0]) (t := 27) ?hr ?_; (case hd => rfl); (case hg => rfl); (case hr => exact lr); intro gb413 hg w286 hbox hb; have n0_ := Aside0.mk (blk_below (lb BK404.out) hb); have n1_ := Aside0.mk (blk_below (lb BK405.out) hb); have n2_ := Aside0.mk (blk_below (lb BK409.out) hb); have n3_ := Aside0.mk (below_step (lB HB.out) hb); have n4_ := Aside0.mk (hbox); have n5_ := gw hg (lB HB.out); have n6_ := gw hg (lB HB.out); have n7_ := na hg (lb BK404.out); have n8_ := nz hg (lb BK404.out); have n9_ := na hg (lb BK405.out); have n10_ := nz hg (lb BK405.out); have n11_ := na hg (lb BK409.out); have n12_ := nz hg (lb BK409.out); clear BK404 BK405 BK409 HB; have BK404 := n0_; have BK405 := n1_; have BK409 := n2_; have HB := n3_; have BK413 := n4_; have GW413 := n5_; have GE413 := n6_; have NB404_413 := n7_; have NB413_404 := n8_; have NB405_413 := n9_; have NB413_405 := n10_; have NB409_413 := n11_; have NB413_409 := n12_; clear n0_ n1_ n2_ n3_ n4_ n5_ n6_ n7_ n8_ n9_ n10_ n11_ n12_; clear hb hbox hg; have hnb287 := NB413_404.out; have hnc287 := NB404_413.out; have hnb288 := NB413_405.out; have hnc288 := NB405_413.out; have hnb289 := NB413_409.out; have hnc289 := NB409_413.out; have hcz290_0 : w286.cell? ⟨gb413, 0, none⟩ = some (.int .i64 0) := (blk_cell BK413.out 0).trans rfl; have hcz290_1 : w286.cell? ⟨gb413, 1, none⟩ = some (.int .i64 0) := (blk_cell BK413.out 1).trans rfl; have hfz290_0 := blk_frozen BK413.out 0; have hfz290_1 := blk_frozen BK413.out 1; have hcz291_0 : w286.cell? ⟨gb409, 0, none⟩ = some (.int .i64 t406) := (blk_cell BK409.out 0).trans rfl; have hcz291_1 : w286.cell? ⟨gb409, 1, none⟩ = some (.int .i64 t407) := (blk_cell BK409.out 1).trans rfl; have hfz291_0 := blk_frozen BK409.out 0; have hfz291_1 := blk_frozen BK409.out 1))
       go_ret
       exact ⟨by first | rfl | (simp [errW_none, errW_some] <;> rfl) | (simp [*, errW_none, errW_some] <;> rfl), by exact lB HB.out⟩
def laws_FnMapsOfPairs.Pure : Prop := ∀ (l0 : List Int) (l1 : List Int), l0.length ≤ maxLen → l0.length * 1 ≤ 140737488351232 → (∀ x ∈ l0, (Lit.int .u8 x).wf = true) → l1.length ≤ maxLen → l1.length * 1 ≤ 140737488351232 → (∀ x ∈ l1, (Lit.int .u8 x).wf = true) → ∃ k, laws_FnMapsOfPairs.f k l0 l1 = some true
theorem laws_FnMapsOfPairs.walk (P : laws_FnMapsOfPairs.Pure) (a0 : Option Addr) (len0 cap0 : Nat) (z0 : List Int) (a1 : Option Addr) (len1 cap1 : Nat) (z1 : List Int) (w : World) (w0 : (a0 = none ∧ len0 = 0 ∧ cap0 = 0 ∧ z0 = []) ∨ ∃ x, a0 = some x ∧ len0 ≤ cap0 ∧ cap0 ≤ maxLen ∧ z0.length = cap0 ∧ (∀ i, i < z0.length → w.cell? (x.add i) = some (.int .u8 (z0.getD i 0))) ∧ ∀ n ∈ z0, (Lit.int .u8 n).wf = true) (y0 : len0 * 1 ≤ 140737488351232) (w1 : (a1 = none ∧ len1 = 0 ∧ cap1 = 0 ∧ z1 = []) ∨ ∃ x, a1 = some x ∧ len1 ≤ cap1 ∧ cap1 ≤ maxLen ∧ z1.length = cap1 ∧ (∀ i, i < z1.length → w.cell? (x.add i) = some (.int .u8 (z1.getD i 0))) ∧ ∀ n ∈ z1, (Lit.int .u8 n).wf = true) (y1 : len1 * 1 ≤ 140737488351232) :
    Calls Tryz.prog 3 #[.slice a0 len0 cap0, .slice a1 len1 cap1] w fun e w' => e = .returned (.bool true) ∧ Below w.heap.size w w' := by
  obtain ⟨l0, rfl, hr0, hm0, hw0, hc0⟩ := ReadsInt.ofRowC w0
  obtain ⟨l1, rfl, hr1, hm1, hw1, hc1⟩ := ReadsInt.ofRowC w1
  obtain ⟨k, h⟩ := P l0 l1 hm0 y0 hw0 hm1 y1 hw1
  refine (laws_FnMapsOfPairs.calls k _ _ l0 _ _ l1 true w (Kd.C_of_reads (d := (0 : Int)) (h1 := fun _ => rfl) hr0) hc0 (Kd.C_of_reads (d := (0 : Int)) (h1 := fun _ => rfl) hr1) hc1 h (Aside0.mk rfl)).mono ?_
  rintro e w' ⟨rfl, hd⟩
  exact ⟨rfl, hd⟩
end Go.Proofs.YtgnepbogadfinaaGreatDoor.PA
namespace Go.Proofs.YtgnepbogadfinaaGreatDoor.PA
open Go.RowKit Go.Proofs.YtgnepbogadfinaaGreatDoorW.PrintWords Go.Proofs.YtgnepbogadfinaaGreatDoorW.PrintLast
theorem gcd_is : ∀ (n a b : Nat), b < n → Ev (fun k => spec_mpGcd.f k (a : Int) (b : Int)) ((Nat.gcd a b : Nat) : Int)
  | 0, a, b, h => by omega
  | n + 1, a, b, h => by
    by_cases h0 : 0 < b
    · have hm := Nat.mod_lt a h0
      have ht : Int.tmod (a : Int) (b : Int) = ((a % b : Nat) : Int) := by rw [Int.tmod_eq_emod_of_nonneg (by omega)]; exact (Int.natCast_emod a b).symm
      obtain ⟨K, hK⟩ := gcd_is n b (a % b) (by omega)
      refine ⟨K + 1, fun k hk => ?_⟩
      obtain ⟨k, rfl⟩ : ∃ k', k = k' + 1 := ⟨k - 1, by omega⟩
      have e : spec_mpGcd.f k (b : Int) ((a % b : Nat) : Int) = some ((Nat.gcd b (a % b) : Nat) : Int) := hK k (by omega)
      have g : Nat.gcd b (a % b) = Nat.gcd a b := by rw [Nat.gcd_comm a b, Nat.gcd_rec b a, Nat.gcd_comm]
      rw [g] at e
      show spec_mpGcd.f (k + 1) _ _ = _
      unfold spec_mpGcd.f at e ⊢
      rw [spec_mpGcd.l0, if_pos (by omega), if_neg (by omega), ht]
      exact e
    · obtain rfl : b = 0 := by omega
      refine ⟨1, fun k hk => ?_⟩
      obtain ⟨k, rfl⟩ : ∃ k', k = k' + 1 := ⟨k - 1, by omega⟩
      show spec_mpGcd.f (k + 1) _ _ = _
      unfold spec_mpGcd.f
      rw [spec_mpGcd.l0, if_neg (by omega), Nat.gcd_zero_right]
theorem short_is (a b : Nat) (ha : a ≤ 1000000000000000) (hb : b ≤ 1000000000000000) (h0 : 0 < b) : Ev (fun k => spec_mpShort.f k (a : Int) (b : Int)) (((a / Nat.gcd a b : Nat) : Int), ((b / Nat.gcd a b : Nat) : Int)) := by
  obtain ⟨K, hK⟩ := gcd_is (b + 1) a b (by omega)
  have hg := Nat.gcd_pos_of_pos_right a h0
  have l1 := Nat.div_le_self a (Nat.gcd a b)
  have l2 := Nat.div_le_self b (Nat.gcd a b)
  have q0 : (a : Int).tdiv (Nat.gcd a b : Nat) = ((a / Nat.gcd a b : Nat) : Int) := by rw [Int.tdiv_eq_ediv_of_nonneg (by omega)]; exact (Int.natCast_ediv _ _).symm
  have q1 : (b : Int).tdiv (Nat.gcd a b : Nat) = ((b / Nat.gcd a b : Nat) : Int) := by rw [Int.tdiv_eq_ediv_of_nonneg (by omega)]; exact (Int.natCast_ediv _ _).symm
  generalize a / Nat.gcd a b = u at *
  generalize b / Nat.gcd a b = v at *
  refine ⟨K, fun k hk => ?_⟩
  have e : spec_mpGcd.f k (a : Int) (b : Int) = _ := hK k hk
  show spec_mpShort.f k _ _ = _
  unfold spec_mpShort.f
  rw [e, Option.bind_some, if_neg (by omega), q0, q1, w64 (x := (u : Int)) (by clear q0 q1; omega), w64 (x := (v : Int)) (by clear q0 q1; omega)]
theorem bt_S (l : List UInt8) (i : Nat) (h : i < l.length) : bt (N.S l) (i : Int) = ((l[i]).toNat : Int) := by
  have hs : ((i : Int)).toNat < (N.S l).size := by rw [N.S_size]; exact h
  rw [← bt_at (N.S l) i hs]
  rfl
theorem bits_l0 (l : List UInt8) (hl : l.length ≤ 1000000) : ∀ n j : Nat, n + j = l.length → Ev (fun k => spec_mpBits.l0 k (N.S l) (j : Int)) ((l.drop j).all fun c => c == 48 || c == 49)
  | 0, j, h => ⟨1, fun k hk => by
    obtain ⟨k, rfl⟩ : ∃ k', k = k' + 1 := ⟨k - 1, by omega⟩
    show spec_mpBits.l0 (k + 1) _ _ = _
    rw [spec_mpBits.l0, if_neg (by rw [N.S_size]; omega), List.drop_eq_nil_of_le (by omega)]; rfl⟩
  | n + 1, j, h => by
    obtain ⟨K, hK⟩ := bits_l0 l hl n (j + 1) (by omega)
    have hj : j < l.length := by omega
    rw [List.drop_eq_getElem_cons hj, List.all_cons]
    refine ⟨K + 1, fun k hk => ?_⟩
    obtain ⟨k, rfl⟩ : ∃ k', k = k' + 1 := ⟨k - 1, by omega⟩
    have e : spec_mpBits.l0 k (N.S l) ((j + 1 : Nat) : Int) = _ := hK k (by omega)
    show spec_mpBits.l0 (k + 1) _ _ = _
    rw [spec_mpBits.l0, if_pos (by rw [N.S_size]; omega), if_pos (by omega), bt_S l j hj, w64 (by omega), show ((j : Int) + 1) = ((j + 1 : Nat) : Int) by omega, e]
    generalize l[j] = c
    by_cases h1 : c = 48
    · subst h1; rw [if_pos (show (((48 : UInt8).toNat : Nat) : Int) = 48 from rfl)]; rfl
    · have n1 : ¬ ((c.toNat : Int) = 48) := fun h => h1 (UInt8.toNat_inj.1 (by show c.toNat = 48; omega))
      rw [if_neg n1]
      by_cases h2 : c = 49
      · subst h2; rw [if_pos (show (((49 : UInt8).toNat : Nat) : Int) = 49 from rfl)]; rfl
      · have n2 : ¬ ((c.toNat : Int) = 49) := fun h => h2 (UInt8.toNat_inj.1 (by show c.toNat = 49; omega))
        rw [if_neg n2]
        have b1 : (c == 48) = false := beq_eq_false_iff_ne.2 h1
        have b2 : (c == 49) = false := beq_eq_false_iff_ne.2 h2
        rw [b1, b2]; rfl
theorem bits_ev (s : ByteArray) : Ev (fun k => spec_mpBits.f k s) (N.adB s.toList) := by
  have es := N.S_of s
  generalize s.toList = l at es
  subst es
  by_cases h : l.length ≤ 10
  · obtain ⟨K, hK⟩ := bits_l0 l (by omega) l.length 0 (by omega)
    refine ⟨K, fun k hk => ?_⟩
    have e : spec_mpBits.l0 k (N.S l) 0 = _ := hK k hk
    show spec_mpBits.f k _ = _
    unfold spec_mpBits.f N.adB
    rw [if_neg (by rw [N.S_size]; omega), e, decide_eq_true h, Bool.true_and, List.drop_zero]
  · refine ⟨0, fun k hk => ?_⟩
    show spec_mpBits.f k _ = _
    unfold spec_mpBits.f N.adB
    rw [if_pos (by rw [N.S_size]; omega), decide_eq_false h, Bool.false_and]
theorem plN_plc (x : Nat × Nat) : plN (x.1 : Int) (x.2 : Int) = N.plc x := rfl
theorem val_give {s t : ByteArray} {p : N.Tr × N.Tr} (hp : N.pairT s t = some p) {x : Nat × Nat} (hx : N.FrOk x) : impl_ValueOf.f s t (x.1 : Int) (x.2 : Int) = some (frT (N.frF (N.vaF p.1 p.2 (N.plc x)))) := by
  have hx' : N.goodB (x.1 : Int) (x.2 : Int) = true := hx
  unfold impl_ValueOf.f
  rw [hp]
  dsimp only
  rw [if_pos hx', plN_plc]
  cases N.frF (N.vaF p.1 p.2 (N.plc x)) <;> rfl
theorem val_some {s t : ByteArray} {p : N.Tr × N.Tr} (hp : N.pairT s t = some p) {x y : Nat × Nat} (hx : N.FrOk x) (hy : N.FrOk y) (h : N.vaF p.1 p.2 (N.plc x) = N.plc y) : impl_ValueOf.f s t (x.1 : Int) (x.2 : Int) = some ((y.1 : Int), (y.2 : Int), true) := by
  rw [val_give hp hx, h, hy.frF]; rfl
theorem frOk_of {n d : Int} (h : N.goodB n d = true) : ∃ x : Nat × Nat, N.FrOk x ∧ n = (x.1 : Int) ∧ d = (x.2 : Int) := by
  obtain ⟨m, k, e1, e2, _⟩ := N.goodB_true h
  refine ⟨(n.toNat, d.toNat), ?_, by simp only; omega, by simp only; omega⟩
  unfold N.FrOk
  simp only
  rw [show ((n.toNat : Nat) : Int) = n by omega, show ((d.toNat : Nat) : Int) = d by omega]
  exact h
theorem val_true {s t : ByteArray} {n d a b : Int} (h : impl_ValueOf.f s t n d = some (a, b, true)) : ∃ (p : N.Tr × N.Tr) (x y : Nat × Nat), N.pairT s t = some p ∧ N.FrOk x ∧ n = (x.1 : Int) ∧ d = (x.2 : Int) ∧ N.FrOk y ∧ a = (y.1 : Int) ∧ b = (y.2 : Int) ∧ N.plc y = N.vaF p.1 p.2 (N.plc x) := by
  cases hp : N.pairT s t with
  | none => unfold impl_ValueOf.f at h; rw [hp] at h; simp at h
  | some p =>
    by_cases hg : N.goodB n d = true
    · obtain ⟨x, hx, rfl, rfl⟩ := frOk_of hg
      rw [val_give hp hx] at h
      obtain ⟨_, _, h1, h2⟩ := N.pairT_some hp
      have hV := N.vaF_le p.1 p.2 h1 h2 (N.plc x) hx.le
      cases hf : N.frF (N.vaF p.1 p.2 (N.plc x)) with
      | none => rw [hf] at h; simp [frT] at h
      | some y =>
        rw [hf] at h
        simp only [frT, Option.some.injEq, Prod.mk.injEq] at h
        obtain ⟨rfl, rfl, _⟩ := h
        obtain ⟨f1, f2⟩ := N.frF_some hV hf
        exact ⟨p, x, y, rfl, hx, rfl, rfl, f1, rfl, rfl, f2⟩
    · unfold impl_ValueOf.f at h
      rw [hp] at h
      simp only at h
      rw [if_neg hg] at h
      simp at h
theorem frF_adr {a : List UInt8} (hl : a.length ≤ 10) : ∃ x, N.frF (N.plA a) = some x ∧ N.FrOk x ∧ N.plc x = N.plA a := by
  have h1 := N.plA_lt (a := a) (by omega)
  have hd : (N.halve 40 (N.plA a) 1099511627776).2 ≤ 1024 := by
    have e := N.halve_gcd 40 (N.plA a)
    have : (N.halve 40 (N.plA a) (2 ^ 40)).2 = 2 ^ 40 / Nat.gcd (N.plA a) (2 ^ 40) := by rw [e]
    rw [show (1099511627776 : Nat) = 2 ^ 40 from rfl, this]
    have g : 2 ^ 30 ∣ Nat.gcd (N.plA a) (2 ^ 40) := Nat.dvd_gcd (Nat.dvd_of_mod_eq_zero (N.plA_gap hl)) (Nat.pow_dvd_pow 2 (by omega))
    have gp := Nat.gcd_pos_of_pos_right (N.plA a) (Nat.two_pow_pos 40)
    have gl := Nat.le_of_dvd gp g
    exact Nat.div_le_of_le_mul (by omega)
  have hf : N.frF (N.plA a) = some (N.halve 40 (N.plA a) 1099511627776) := by unfold N.frF; rw [if_pos hd]
  obtain ⟨f1, f2⟩ := N.frF_some (by omega) hf
  exact ⟨_, hf, f1, f2⟩
theorem fracOf_yes {s : ByteArray} (h : N.adB s.toList = true) : ∃ x : Nat × Nat, N.FrOk x ∧ N.plc x = N.plA s.toList ∧ impl_FractionOf.f s = some ((x.1 : Int), (x.2 : Int), true) := by
  obtain ⟨h1, h2⟩ := N.adB_bits h
  obtain ⟨x, e1, e2, e3⟩ := frF_adr h2
  have hz : s.toList.length = s.size := by rw [ByteArray.toList_eq]; rfl
  have hl := N.plA_lt (a := s.toList) (by omega)
  refine ⟨x, e2, e3, ?_⟩
  unfold impl_FractionOf.f impl_isAddress.f impl_placeOf.f impl_toldAt.f
  rw [Option.bind_some, if_pos h, if_pos (by omega), Option.bind_some, if_pos (by omega), Option.bind_some]
  rw [show (((N.plA s.toList : Nat) : Int)).toNat = N.plA s.toList from rfl, e1]
  rfl
theorem rdOf_S (la : List (List UInt8)) (j : Nat) (a : List UInt8) (h : la[j]? = some a) : rdOf ByteArray.empty (la.map N.S) (j : Int) = N.S a := by
  show (la.map N.S).getD j _ = _
  rw [List.getD_eq_getElem?_getD, List.getElem?_map, h]
  rfl
theorem pre_take (a l : List UInt8) : (l.take a.length == a) = a.isPrefixOf l := by
  rw [Bool.eq_iff_iff, List.isPrefixOf_iff_prefix, List.prefix_iff_eq_take, beq_iff_eq]
  exact eq_comm
theorem img_l0 (la lb : List (List UInt8)) (l : List UInt8) (hl : l.length ≤ 1000000) (hab : la.length = lb.length) (hn : la.length ≤ 1000000) (db : ∀ x ∈ lb, x.length ≤ 1000000) : ∀ n j : Nat, n + j = la.length →
    Ev (fun k => spec_ImageOfAddress.l0 k (N.S l) (lb.map N.S) (la.map N.S) (la.length : Int) (j : Int)) (stT (N.imgL (la.drop j) (lb.drop j) l))
  | 0, j, h => ⟨1, fun k hk => by
    obtain ⟨k, rfl⟩ : ∃ k', k = k' + 1 := ⟨k - 1, by omega⟩
    show spec_ImageOfAddress.l0 (k + 1) _ _ _ _ _ = _
    rw [spec_ImageOfAddress.l0, if_neg (by omega), N.imgL_end la lb l j (by omega)]; rfl⟩
  | n + 1, j, h => by
    obtain ⟨K, hK⟩ := img_l0 la lb l hl hab hn db n (j + 1) (by omega)
    have hj : j < la.length := by omega
    have hj2 : j < lb.length := by omega
    have ea := List.getElem?_eq_getElem hj
    have eb := List.getElem?_eq_getElem hj2
    have hb := db _ (List.getElem_mem hj2)
    rw [N.imgL_drop la lb l j _ _ ea eb]
    have ra := rdOf_S la j _ ea
    have rb := rdOf_S lb j _ eb
    generalize la[j] = a at *
    generalize lb[j] = b at *
    clear ea eb
    refine ⟨K + 2, fun k hk => ?_⟩
    obtain ⟨k, rfl⟩ : ∃ k', k = k' + 2 := ⟨k - 2, by omega⟩
    have e : spec_ImageOfAddress.l0 k (N.S l) (lb.map N.S) (la.map N.S) (la.length : Int) ((j + 1 : Nat) : Int) = _ := hK k (by omega)
    have x1 : (N.S l).extract a.length l.length = N.S (l.drop a.length) := by rw [N.S_extract, List.take_length]
    have x0 : ((N.S l).extract 0 a.length).toList = l.take a.length := by rw [N.S_extract, N.S_toList, List.drop_zero]
    have step : ∀ f : Bool, spec_ImageOfAddress.j2 (k + 1) (N.S l) (lb.map N.S) (j : Int) (N.S a) (la.map N.S) (la.length : Int) (j : Int) f = if f = true ∧ a.length ≤ l.length then some (stT (if b.length + (l.length - a.length) ≤ 10 then some (b ++ l.drop a.length) else none)) else if f = true then none else spec_ImageOfAddress.l0 k (N.S l) (lb.map N.S) (la.map N.S) (la.length : Int) ((j + 1 : Nat) : Int) := fun f => by
      rw [spec_ImageOfAddress.j2, rb, N.S_size, N.S_size]
      cases f with
      | false => rw [if_neg (by decide), if_neg (by simp), if_neg (by decide), w64 (by omega)]; rfl
      | true =>
        rw [if_pos rfl, if_pos (by omega), if_pos (by rw [List.length_map]; omega), if_pos (by omega)]
        by_cases hal : a.length ≤ l.length
        · rw [if_pos (by omega), show (((a.length : Nat) : Int)).toNat = a.length from rfl, x1, if_pos (show true = true ∧ a.length ≤ l.length from ⟨rfl, hal⟩)]
          have z : (N.S b).size + (N.S (l.drop a.length)).size = b.length + (l.length - a.length) := by rw [N.S_size, N.S_size, List.length_drop]
          have z2 : (N.S b ++ N.S (l.drop a.length)).size = b.length + (l.length - a.length) := by rw [N.S_append, N.S_size, List.length_append, List.length_drop]
          rw [if_pos (by omega)]
          by_cases h10 : b.length + (l.length - a.length) ≤ 10
          · rw [if_neg (by omega), if_pos h10, N.S_append]; rfl
          · rw [if_pos (by omega), if_neg h10]; rfl
        · rw [if_neg (by omega), if_neg (fun h => hal h.2), if_pos rfl]
    show spec_ImageOfAddress.l0 (k + 1 + 1) _ _ _ _ _ = _
    rw [spec_ImageOfAddress.l0, if_pos (by omega), if_pos (by omega), if_pos (by rw [List.length_map]; omega), ra, N.S_size, N.S_size]
    by_cases hal : a.length ≤ l.length
    · rw [if_pos (by omega), if_pos (by omega), show (((a.length : Nat) : Int)).toNat = a.length from rfl, x0, N.S_toList, pre_take, step]
      by_cases hp : a.isPrefixOf l = true
      · rw [if_pos ⟨hp, hal⟩, if_pos hp]
      · rw [if_neg (fun h => hp h.1), if_neg hp, if_neg hp, e]
    · rw [if_neg (by omega), step, if_neg (by simp), if_neg (by decide), e]
      have hp : ¬ a.isPrefixOf l = true := fun h => hal (List.isPrefixOf_iff_prefix.1 h).length_le
      rw [if_neg hp]
theorem img_ev (s t a : ByteArray) : ∃ v, impl_ImageOfAddress.f s t a = some v ∧ Ev (fun k => spec_ImageOfAddress.f k s t a) v := by
  refine ⟨_, rfl, ?_⟩
  obtain ⟨K1, hB⟩ := bits_ev a
  cases hp : N.pairT s t with
  | none =>
    refine ⟨1, fun k hk => ?_⟩
    obtain ⟨k, rfl⟩ : ∃ k', k = k' + 1 := ⟨k - 1, by omega⟩
    show spec_ImageOfAddress.f (k + 1) s t a = _
    unfold spec_ImageOfAddress.f spec_prGood.f
    rw [hp, Option.bind_some, if_neg (by decide), spec_ImageOfAddress.j0, if_pos rfl]
    rfl
  | some p =>
    obtain ⟨e1, e2, h1, h2⟩ := N.pairT_some hp
    have G : ∀ k, spec_ImageOfAddress.f k s t a = (spec_mpBits.f k a).bind fun t277 => (spec_ImageOfAddress.j0 k a (!t277) s t) := fun k => by
      unfold spec_ImageOfAddress.f spec_prGood.f
      rw [hp, Option.bind_some, if_pos (by rfl)]
    dsimp only
    by_cases hg : N.adB a.toList = true
    · rw [if_pos hg]
      have hl := (N.adB_bits hg).2
      have es := N.S_of a
      generalize a.toList = l at *
      have TA : spec_trAddresses.f s (⟨#[]⟩ : ByteArray) = some ((N.addrs p.1 []).map N.S) := by
        rw [e1]; unfold spec_trAddresses.f; rw [N.parseT_tx, Option.bind_some, if_pos ⟨by omega, rfl⟩]
      have TB : spec_trAddresses.f t (⟨#[]⟩ : ByteArray) = some ((N.addrs p.2 []).map N.S) := by
        rw [e2]; unfold spec_trAddresses.f; rw [N.parseT_tx, Option.bind_some, if_pos ⟨by omega, rfl⟩]
      have lA := N.addrs_length p.1 []
      have lB := N.addrs_length p.2 []
      have dB : ∀ x ∈ N.addrs p.2 [], x.length ≤ 1000000 := fun x hx => by have := N.addrs_depth p.2 [] x hx; have := p.2.depth_le; simp at *; omega
      generalize N.addrs p.1 [] = la at *
      generalize N.addrs p.2 [] = lb at *
      obtain ⟨K, hK⟩ := img_l0 la lb l (by omega) (by omega) (by omega) dB la.length 0 (by omega)
      refine ⟨K + K1 + 1, fun k hk => ?_⟩
      obtain ⟨k, rfl⟩ : ∃ k', k = k' + 1 := ⟨k - 1, by omega⟩
      have e : spec_ImageOfAddress.l0 k (N.S l) (lb.map N.S) (la.map N.S) (la.length : Int) 0 = _ := hK k (by omega)
      have eb : spec_mpBits.f (k + 1) a = some (N.adB l) := hB (k + 1) (by omega)
      show spec_ImageOfAddress.f (k + 1) s t a = _
      rw [G, eb, Option.bind_some, hg, spec_ImageOfAddress.j0, if_neg (by decide), TB, Option.bind_some, TA, Option.bind_some, List.length_map, es, e, List.drop_zero, List.drop_zero]
    · rw [if_neg hg]
      refine ⟨K1 + 1, fun k hk => ?_⟩
      obtain ⟨k, rfl⟩ : ∃ k', k = k' + 1 := ⟨k - 1, by omega⟩
      have eb : spec_mpBits.f (k + 1) a = some (N.adB a.toList) := hB (k + 1) (by omega)
      show spec_ImageOfAddress.f (k + 1) s t a = _
      rw [G, eb, Option.bind_some, Bool.eq_false_iff.2 hg, spec_ImageOfAddress.j0, if_pos (show (!false) = true from rfl)]
      rfl
theorem half_ev (n1 d1 n2 d2 : Int) : ∃ v, Ev (fun k => impl_HalfOf.f k n1 d1 n2 d2) v ∧ Ev (fun k => spec_HalfOf.f k n1 d1 n2 d2) v := by
  have I : ∀ n d, impl_IsFraction.f n d = some (N.goodB n d) := fun _ _ => rfl
  have M : ∀ n d, spec_mpGood.f n d = some (N.goodB n d) := fun _ _ => rfl
  have bi : ∀ k, impl_HalfOf.j0 (k + 1) true n1 d1 n2 d2 = some (0, 0, false) := fun k => by rw [impl_HalfOf.j0, if_pos rfl]
  have bs : ∀ k, spec_HalfOf.j0 (k + 1) true n1 d1 n2 d2 = some (0, 0, false) := fun k => by rw [spec_HalfOf.j0, if_pos rfl]
  by_cases g1 : N.goodB n1 d1 = true
  · by_cases g2 : N.goodB n2 d2 = true
    · obtain ⟨x, hx, rfl, rfl⟩ := frOk_of g1
      obtain ⟨y, hy, rfl, rfl⟩ := frOk_of g2
      have lx := hx.le
      have ly := hy.le
      have sx := hx.small
      have sy := hy.small
      have hlow := N.half_low x y hx hy
      obtain ⟨kx, fx1, fx2, fx3⟩ := hx.form
      obtain ⟨ky, fy1, fy2, fy3⟩ := hy.form
      have px : 0 < x.2 := by rw [fx2]; exact Nat.two_pow_pos _
      have py : 0 < y.2 := by rw [fy2]; exact Nat.two_pow_pos _
      have m1 := Nat.mul_le_mul (show x.1 ≤ 1024 by omega) sy
      have m2 := Nat.mul_le_mul (show y.1 ≤ 1024 by omega) sx
      have m3 := Nat.mul_le_mul sx sy
      have m4 : 0 < x.2 * y.2 := Nat.mul_pos px py
      have e3 : 2 * x.2 * y.2 = 2 * (x.2 * y.2) := Nat.mul_assoc _ _ _
      obtain ⟨K, hK⟩ := short_is (x.1 * y.2 + y.1 * x.2) (2 * x.2 * y.2) (by omega) (by omega) (by omega)
      have hV : (N.plc x + N.plc y) / 2 ≤ 1099511627776 := by omega
      have gh := N.goodB_halve _ hV
      refine ⟨frT (N.frF ((N.plc x + N.plc y) / 2)), ⟨1, fun k hk => ?_⟩, ⟨K + 1, fun k hk => ?_⟩⟩
      · obtain ⟨k, rfl⟩ : ∃ k', k = k' + 1 := ⟨k - 1, by omega⟩
        show impl_HalfOf.f (k + 1) _ _ _ _ = _
        unfold impl_HalfOf.f
        rw [I, Option.bind_some, if_pos g1, I, Option.bind_some, g2, impl_HalfOf.j0, if_neg (by decide)]
        unfold impl_Fraction_place.f impl_toldAt.f
        rw [if_pos g1, if_pos g2, Option.bind_some, Option.bind_some, plN_plc, plN_plc, w64 (x := ((N.plc x : Nat) : Int) + ((N.plc y : Nat) : Int)) (by omega)]
        have q : Int.tdiv (((N.plc x : Nat) : Int) + ((N.plc y : Nat) : Int)) 2 = (((N.plc x + N.plc y) / 2 : Nat) : Int) := by rw [Int.tdiv_eq_ediv_of_nonneg (by omega)]; omega
        rw [q, w64 (by omega), if_pos (by omega), Option.bind_some]
        rfl
      · obtain ⟨k, rfl⟩ : ∃ k', k = k' + 1 := ⟨k - 1, by omega⟩
        have e : spec_mpShort.f k ((x.1 * y.2 + y.1 * x.2 : Nat) : Int) ((2 * x.2 * y.2 : Nat) : Int) = _ := hK k (by omega)
        have hl1 := congrArg Prod.fst hlow
        have hl2 := congrArg Prod.snd hlow
        simp only at hl1 hl2
        rw [hl1, hl2] at e
        have w1 : wrap64 ((wrap64 ((x.1 : Int) * (y.2 : Int))) + (wrap64 ((y.1 : Int) * (x.2 : Int)))) = ((x.1 * y.2 + y.1 * x.2 : Nat) : Int) := by
          rw [← Int.natCast_mul, ← Int.natCast_mul, w64 (x := ((x.1 * y.2 : Nat) : Int)) (by omega), w64 (x := ((y.1 * x.2 : Nat) : Int)) (by omega), w64 (by omega)]; omega
        have w2 : wrap64 ((wrap64 (2 * (x.2 : Int))) * (y.2 : Int)) = ((2 * x.2 * y.2 : Nat) : Int) := by
          rw [w64 (x := 2 * (x.2 : Int)) (by omega), show (2 * (x.2 : Int)) = ((2 * x.2 : Nat) : Int) by omega, ← Int.natCast_mul, w64 (by omega)]
        show spec_HalfOf.f (k + 1) _ _ _ _ = _
        unfold spec_HalfOf.f
        rw [M, Option.bind_some, if_pos g1, M, Option.bind_some, g2, spec_HalfOf.j0, if_neg (by decide), w1, w2, e, Option.bind_some]
        dsimp only
        unfold spec_mpIf.f
        rw [M, Option.bind_some, gh]
        unfold N.frF
        by_cases hd : (N.halve 40 ((N.plc x + N.plc y) / 2) 1099511627776).2 ≤ 1024
        · rw [if_pos (decide_eq_true hd), if_pos hd, Option.bind_some]; rfl
        · rw [if_neg (by rw [decide_eq_false hd]; decide), if_neg hd, Option.bind_some]; rfl
    · refine ⟨(0, 0, false), ⟨1, fun k hk => ?_⟩, ⟨1, fun k hk => ?_⟩⟩
      · obtain ⟨k, rfl⟩ : ∃ k', k = k' + 1 := ⟨k - 1, by omega⟩
        show impl_HalfOf.f (k + 1) _ _ _ _ = _
        unfold impl_HalfOf.f
        rw [I, Option.bind_some, if_pos g1, I, Option.bind_some, Bool.eq_false_iff.2 g2]
        exact bi k
      · obtain ⟨k, rfl⟩ : ∃ k', k = k' + 1 := ⟨k - 1, by omega⟩
        show spec_HalfOf.f (k + 1) _ _ _ _ = _
        unfold spec_HalfOf.f
        rw [M, Option.bind_some, if_pos g1, M, Option.bind_some, Bool.eq_false_iff.2 g2]
        exact bs k
  · refine ⟨(0, 0, false), ⟨1, fun k hk => ?_⟩, ⟨1, fun k hk => ?_⟩⟩
    · obtain ⟨k, rfl⟩ : ∃ k', k = k' + 1 := ⟨k - 1, by omega⟩
      show impl_HalfOf.f (k + 1) _ _ _ _ = _
      unfold impl_HalfOf.f
      rw [I, Option.bind_some, if_neg g1]
      exact bi k
    · obtain ⟨k, rfl⟩ : ∃ k', k = k' + 1 := ⟨k - 1, by omega⟩
      show spec_HalfOf.f (k + 1) _ _ _ _ = _
      unfold spec_HalfOf.f
      rw [M, Option.bind_some, if_neg g1]
      exact bs k
theorem of_tot {l : List Int} (hl : Oct l) {m : Nat} {a s : Int} (xs : List ByteArray) (h0 : 0 < xs.length) (hn : xs.length ≤ 1000) (h : Lf (m + 2) a) : ∃ x a' s', spec_l1Cur_of.f l a s xs = some (x, a', s') ∧ x ∈ xs ∧ Lf m a' := by
  obtain ⟨r, a', s', e, r0, r1, hL⟩ := pick_tot hl (m := m) (a := a) (s := s) (xs.length : Int) (by omega) h
  have r1 := r1 (by omega)
  obtain ⟨q, rfl⟩ : ∃ q : Nat, r = q := ⟨r.toNat, by omega⟩
  have hq : q < xs.length := by omega
  refine ⟨xs[q], a', s', ?_, List.getElem_mem hq, hL⟩
  unfold spec_l1Cur_of.f
  rw [e, Option.bind_some]
  dsimp only
  rw [if_pos r0, if_pos r1]
  congr 2
  show xs.getD q _ = _
  rw [List.getD_eq_getElem?_getD, List.getElem?_eq_getElem hq]; rfl
theorem drawVO_ev {l : List Int} (hl : Oct l) : ∃ v, Ev (fun k => spec_DrawValueOf.f k l) v := by
  obtain ⟨x, y, a, s, ⟨K1, h1⟩, hL⟩ := pair_ev hl (m := 1000) (a := 0) (s := 0) 6 (by omega) (by unfold Lf; omega)
  obtain ⟨z, t, a', s', ⟨K2, h2⟩, _⟩ := frac_ev hl (m := 0) (a := a) (s := s) 5 (by omega) (by unfold Lf at *; omega)
  refine ⟨(x, y, z, t), K1 + K2, fun k hk => ?_⟩
  have e1 : spec_l1Cur_pair.f k l 0 0 6 = some (x, y, a, s) := h1 k (by omega)
  have e2 : spec_l1Cur_fraction.f k l a s 5 = some (z, t, a', s') := h2 k (by omega)
  show spec_DrawValueOf.f k l = _
  unfold spec_DrawValueOf.f
  rw [e1, Option.bind_some, e2, Option.bind_some]
theorem drawHO_ev {l : List Int} (hl : Oct l) : ∃ v, Ev (fun k => spec_DrawHalfOf.f k l) v := by
  obtain ⟨x, y, a, s, ⟨K1, h1⟩, hL⟩ := frac_ev hl (m := 1000) (a := 0) (s := 0) 7 (by omega) (by unfold Lf; omega)
  obtain ⟨z, t, a', s', ⟨K2, h2⟩, _⟩ := frac_ev hl (m := 0) (a := a) (s := s) 7 (by omega) (by unfold Lf at *; omega)
  refine ⟨(x, y, z, t), K1 + K2, fun k hk => ?_⟩
  have e1 : spec_l1Cur_fraction.f k l 0 0 7 = some (x, y, a, s) := h1 k (by omega)
  have e2 : spec_l1Cur_fraction.f k l a s 7 = some (z, t, a', s') := h2 k (by omega)
  show spec_DrawHalfOf.f k l = _
  unfold spec_DrawHalfOf.f
  rw [e1, Option.bind_some, e2, Option.bind_some]
theorem drawIA_l0 {l : List Int} (hl : Oct l) (s t : ByteArray) : ∀ (n : Nat) (x : ByteArray) (a b : Int), x.size + n ≤ 1000000 → n ≤ 100 → Lf (2 * n) a → ∃ r, Ev (fun k => spec_DrawImageOfAddress.l0 k x (n : Int) l a b s t) (s, t, r)
  | 0, x, a, b, hx, hn, h => ⟨x, 1, fun k hk => by
    obtain ⟨k, rfl⟩ : ∃ k', k = k' + 1 := ⟨k - 1, by omega⟩
    show spec_DrawImageOfAddress.l0 (k + 1) _ _ _ _ _ _ _ = _
    rw [spec_DrawImageOfAddress.l0, if_neg (by omega)]⟩
  | n + 1, x, a, b, hx, hn, h => by
    obtain ⟨c, a', b', e, hc, hL⟩ := of_tot hl (m := 2 * n) (a := a) (s := b) [(⟨#[48]⟩ : ByteArray), (⟨#[49]⟩ : ByteArray)] (by decide) (by decide) (by unfold Lf at *; omega)
    have c1 : c.size = 1 := by
      simp only [List.mem_cons, List.not_mem_nil, or_false] at hc
      rcases hc with rfl | rfl <;> rfl
    have cs : (x ++ c).size = x.size + 1 := by rw [ByteArray.size_append, c1]
    obtain ⟨r, K, hK⟩ := drawIA_l0 hl s t n (x ++ c) a' b' (by omega) (by omega) hL
    refine ⟨r, K + 1, fun k hk => ?_⟩
    obtain ⟨k, rfl⟩ : ∃ k', k = k' + 1 := ⟨k - 1, by omega⟩
    have e2 : spec_DrawImageOfAddress.l0 k (x ++ c) (n : Int) l a' b' s t = _ := hK k (by omega)
    show spec_DrawImageOfAddress.l0 (k + 1) _ _ _ _ _ _ _ = _
    rw [spec_DrawImageOfAddress.l0, if_pos (by omega), e, Option.bind_some]
    dsimp only
    rw [if_pos (by omega), w64 (by omega), show (((n + 1 : Nat) : Int) - 1) = (n : Int) by omega, e2]
theorem drawIA_ev {l : List Int} (hl : Oct l) : ∃ v, Ev (fun k => spec_DrawImageOfAddress.f k l) v := by
  obtain ⟨x, y, a, s, ⟨K1, h1⟩, hL⟩ := pair_ev hl (m := 1000) (a := 0) (s := 0) 5 (by omega) (by unfold Lf; omega)
  have B : ∀ a s, Lf 10 a → ∃ v, ∀ k, spec_DrawImageOfAddress.j0 (k + 1) true l a s x y = some v := fun a s h => by
    obtain ⟨c, a', b', e, hc, hL⟩ := of_tot hl (m := 8) (a := a) (s := s) [(⟨#[]⟩ : ByteArray), (⟨#[48]⟩ : ByteArray), (⟨#[49]⟩ : ByteArray), (⟨#[48, 49]⟩ : ByteArray), (⟨#[49, 49, 48]⟩ : ByteArray), (⟨#[50]⟩ : ByteArray), (⟨#[48, 48, 48, 48, 48, 48, 48, 48, 48, 48, 48]⟩ : ByteArray)] (by decide) (by decide) h
    refine ⟨(x, y, c), fun k => ?_⟩
    rw [spec_DrawImageOfAddress.j0, if_pos rfl, e, Option.bind_some]
  cases hp : N.pairT x y with
  | none =>
    obtain ⟨v, hv⟩ := B a s (by unfold Lf at *; omega)
    refine ⟨v, K1 + 1, fun k hk => ?_⟩
    obtain ⟨k, rfl⟩ : ∃ k', k = k' + 1 := ⟨k - 1, by omega⟩
    have e1 : spec_l1Cur_pair.f (k + 1) l 0 0 5 = some (x, y, a, s) := h1 (k + 1) (by omega)
    show spec_DrawImageOfAddress.f (k + 1) l = _
    unfold spec_DrawImageOfAddress.f spec_prGood.f
    rw [e1, Option.bind_some, hp, Option.bind_some, if_neg (by decide)]
    exact hv k
  | some p =>
    obtain ⟨b, a2, s2, e2, hL2⟩ := one_tot hl (m := 900) (a := a) (s := s) 4 (by omega) (by unfold Lf at *; omega)
    have fin : ∀ v, (Ev (fun k => spec_DrawImageOfAddress.j0 k b l a2 s2 x y) v) → ∃ v, Ev (fun k => spec_DrawImageOfAddress.f k l) v := by
      rintro v ⟨K, hK⟩
      refine ⟨v, K1 + K, fun k hk => ?_⟩
      have e1 : spec_l1Cur_pair.f k l 0 0 5 = some (x, y, a, s) := h1 k (by omega)
      have e3 : spec_DrawImageOfAddress.j0 k b l a2 s2 x y = some v := hK k (by omega)
      show spec_DrawImageOfAddress.f k l = _
      unfold spec_DrawImageOfAddress.f spec_prGood.f
      rw [e1, Option.bind_some, hp, Option.bind_some, if_pos (by rfl), e2, Option.bind_some]
      exact e3
    cases b with
    | true =>
      obtain ⟨v, hv⟩ := B a2 s2 (by unfold Lf at *; omega)
      exact fin v ⟨1, fun k hk => by
        obtain ⟨k, rfl⟩ : ∃ k', k = k' + 1 := ⟨k - 1, by omega⟩
        exact hv k⟩
    | false =>
      obtain ⟨q1, q2, q3, q4⟩ := N.pairT_some hp
      have TA : spec_trAddresses.f x (⟨#[]⟩ : ByteArray) = some ((N.addrs p.1 []).map N.S) := by
        rw [q1]; unfold spec_trAddresses.f; rw [N.parseT_tx, Option.bind_some, if_pos ⟨by omega, rfl⟩]
      have lA := N.addrs_length p.1 []
      have dA : ∀ z ∈ N.addrs p.1 [], z.length ≤ 8 := fun z hz => by have := N.addrs_depth p.1 [] z hz; have := p.1.depth_le; simp at *; omega
      generalize N.addrs p.1 [] = la at *
      have lm : (la.map N.S).length = la.length := List.length_map _
      obtain ⟨r, a3, s3, e3, r0, r1, hL3⟩ := pick_tot hl (m := 800) (a := a2) (s := s2) ((la.map N.S).length : Int) (by omega) (by unfold Lf at *; omega)
      have r1 := r1 (by omega)
      obtain ⟨q, rfl⟩ : ∃ q : Nat, r = q := ⟨r.toNat, by omega⟩
      obtain ⟨r', a4, s4, e4, r0', r1', hL4⟩ := pick_tot hl (m := 700) (a := a3) (s := s3) 4 (by omega) (by unfold Lf at *; omega)
      have r1' := r1' (by omega)
      obtain ⟨n, rfl⟩ : ∃ n : Nat, r' = n := ⟨r'.toNat, by omega⟩
      have hq : q < la.length := by omega
      have er := rdOf_S la q _ (List.getElem?_eq_getElem hq)
      have hz := dA _ (List.getElem_mem hq)
      obtain ⟨w, K, hK⟩ := drawIA_l0 hl x y n (N.S la[q]) a4 s4 (by rw [N.S_size]; omega) (by omega) (by unfold Lf at *; omega)
      refine fin (x, y, w) ⟨K + 1, fun k hk => ?_⟩
      obtain ⟨k, rfl⟩ : ∃ k', k = k' + 1 := ⟨k - 1, by omega⟩
      have e5 : spec_DrawImageOfAddress.l0 k (N.S la[q]) (n : Int) l a4 s4 x y = _ := hK k (by omega)
      show spec_DrawImageOfAddress.j0 (k + 1) _ _ _ _ _ _ = _
      rw [spec_DrawImageOfAddress.j0, if_neg (by decide), TA, Option.bind_some, e3, Option.bind_some]
      dsimp only
      rw [if_pos r0, if_pos r1, e4, Option.bind_some]
      dsimp only
      rw [er, e5]
end Go.Proofs.YtgnepbogadfinaaGreatDoor.PA
namespace Go.Proofs.YtgnepbogadfinaaGreatDoor.PA
open Go.RowKit Go.Proofs.YtgnepbogadfinaaGreatDoorW.PrintWords Go.Proofs.YtgnepbogadfinaaGreatDoorW.PrintLast
theorem mo_half {l0 : List Int} (h0 : Oct l0) : ∃ n1 d1 n2 d2 a b c, Ev (fun k => spec_DrawHalfOf.f k l0) (n1, d1, n2, d2) ∧ Ev (fun k => impl_HalfOf.f k n1 d1 n2 d2) (a, b, c) ∧ Ev (fun k => spec_HalfOf.f k n1 d1 n2 d2) (a, b, c) := by
  obtain ⟨⟨n1, d1, n2, d2⟩, hd⟩ := drawHO_ev h0
  obtain ⟨⟨a, b, c⟩, h1, h2⟩ := half_ev n1 d1 n2 d2
  exact ⟨n1, d1, n2, d2, a, b, c, hd, h1, h2⟩
theorem mo_j5 {l0 : List Int} (h0 : Oct l0) : Ev (fun k => laws_FnMapsOfPairs.j5 k l0 false) true := by
  obtain ⟨n1, d1, n2, d2, a, b, c, ⟨K1, h1⟩, ⟨K2, h2⟩, ⟨K3, h3⟩⟩ := mo_half h0
  refine ⟨K1 + K2 + K3 + 1, fun k hk => ?_⟩
  obtain ⟨k, rfl⟩ : ∃ k', k = k' + 1 := ⟨k - 1, by omega⟩
  have e1 : spec_DrawHalfOf.f k l0 = some (n1, d1, n2, d2) := h1 k (by omega)
  have e2 : impl_HalfOf.f k n1 d1 n2 d2 = some (a, b, c) := h2 k (by omega)
  have e3 : spec_HalfOf.f k n1 d1 n2 d2 = some (a, b, c) := h3 k (by omega)
  show laws_FnMapsOfPairs.j5 (k + 1) _ _ = _
  rw [laws_FnMapsOfPairs.j5, if_neg (by decide), e1, Option.bind_some]
  dsimp only
  rw [e2, Option.bind_some, e3, Option.bind_some]
  dsimp only
  rw [if_pos (by simp)]
  simp
theorem mo_j4 {l0 : List Int} (h0 : Oct l0) (s t a : ByteArray) (r : ByteArray) (ok : Bool) (h : impl_ImageOfAddress.f s t a = some (r, ok)) : Ev (fun k => laws_FnMapsOfPairs.j4 k l0 a r ok false s t) true := by
  obtain ⟨K, hK⟩ := mo_j5 h0
  cases ok with
  | false =>
    obtain ⟨n1, d1, n2, d2, a', b', c', ⟨K1, h1⟩, ⟨K2, h2⟩, ⟨K3, h3⟩⟩ := mo_half h0
    refine ⟨K1 + K2 + K3 + 1, fun k hk => ?_⟩
    obtain ⟨k, rfl⟩ : ∃ k', k = k' + 1 := ⟨k - 1, by omega⟩
    have e1 : spec_DrawHalfOf.f k l0 = some (n1, d1, n2, d2) := h1 k (by omega)
    have e2 : impl_HalfOf.f k n1 d1 n2 d2 = some (a', b', c') := h2 k (by omega)
    have e3 : spec_HalfOf.f k n1 d1 n2 d2 = some (a', b', c') := h3 k (by omega)
    show laws_FnMapsOfPairs.j4 (k + 1) _ _ _ _ _ _ _ = _
    rw [laws_FnMapsOfPairs.j4, if_neg (by decide), if_neg (by decide), e1, Option.bind_some]
    dsimp only
    rw [e2, Option.bind_some, e3, Option.bind_some]
    dsimp only
    rw [if_pos (by simp)]
    simp
  | true =>
    unfold impl_ImageOfAddress.f at h
    cases hp : N.pairT s t with
    | none => rw [hp] at h; simp [stT] at h
    | some p =>
      rw [hp] at h
      replace h := Option.some.inj h
      simp only at h
      by_cases hg : N.adB a.toList = true
      · rw [if_pos hg] at h
        obtain ⟨_, _, c1, c2⟩ := N.pairT_some hp
        obtain ⟨b1, b2⟩ := N.adB_bits hg
        cases hi : N.imgL (N.addrs p.1 []) (N.addrs p.2 []) a.toList with
        | none => rw [hi] at h; simp [stT] at h
        | some u =>
          rw [hi] at h
          simp only [stT, Prod.mk.injEq] at h
          obtain ⟨rfl, _⟩ := h
          obtain ⟨u1, u2, u3⟩ := N.img_val c1 c2 b1 b2 hi
          obtain ⟨x, x1, x2, x3⟩ := fracOf_yes hg
          obtain ⟨y, y1, y2, y3⟩ := fracOf_yes (s := N.S u) (by rw [N.S_toList]; exact N.adB_of u1 u2)
          rw [N.S_toList] at y2
          have hv := val_some hp x1 y1 (by rw [x2, y2]; exact u3)
          refine ⟨K + 1, fun k hk => ?_⟩
          obtain ⟨k, rfl⟩ : ∃ k', k = k' + 1 := ⟨k - 1, by omega⟩
          have e : laws_FnMapsOfPairs.j5 k l0 false = some true := hK k (by omega)
          show laws_FnMapsOfPairs.j4 (k + 1) _ _ _ _ _ _ _ = _
          rw [laws_FnMapsOfPairs.j4, if_neg (by decide), if_pos rfl, x3, Option.bind_some, y3, Option.bind_some]
          dsimp only
          rw [hv, Option.bind_some]
          dsimp only
          rw [if_pos rfl, if_pos rfl, if_pos rfl, show (!((y.1 : Int) == (y.1 : Int)) || (!((y.2 : Int) == (y.2 : Int)))) = false by simp, e]
      · rw [if_neg hg] at h; simp [stT] at h
theorem mo_j3 {l0 l1 : List Int} (h0 : Oct l0) (h1 : Oct l1) : Ev (fun k => laws_FnMapsOfPairs.j3 k l0 l1) true := by
  obtain ⟨⟨s, t, a⟩, K1, e1⟩ := drawIA_ev h1
  obtain ⟨⟨r, ok⟩, hi, K2, e2⟩ := img_ev s t a
  obtain ⟨K3, e3⟩ := mo_j4 h0 s t a r ok hi
  refine ⟨K1 + K2 + K3 + 1, fun k hk => ?_⟩
  obtain ⟨k, rfl⟩ : ∃ k', k = k' + 1 := ⟨k - 1, by omega⟩
  have g1 : spec_DrawImageOfAddress.f k l1 = some (s, t, a) := e1 k (by omega)
  have g2 : spec_ImageOfAddress.f k s t a = some (r, ok) := e2 k (by omega)
  have g3 : laws_FnMapsOfPairs.j4 k l0 a r ok false s t = some true := e3 k (by omega)
  show laws_FnMapsOfPairs.j3 (k + 1) _ _ = _
  rw [laws_FnMapsOfPairs.j3, g1, Option.bind_some]
  dsimp only
  rw [hi, Option.bind_some, g2, Option.bind_some]
  dsimp only
  rw [if_neg (by simp), show (r.toList != r.toList) = false by simp]
  exact g3
theorem mo_mul {p q : N.Tr × N.Tr} (hp : p.1.carets = p.2.carets) (hq : q.1.carets = q.2.carets) (p8 : p.2.carets ≤ 8) (q8 : q.2.carets ≤ 8) (m8 : (N.mul p q).1.carets ≤ 8) {s t u v x y : ByteArray} (e1 : N.pairT s t = some p) (e2 : N.pairT u v = some q) (e3 : N.pairT x y = some (N.mul p q))
    {n d a b c e : Int} {f : Bool} {c' e' : Int} (v1 : impl_ValueOf.f s t n d = some (a, b, true)) (v2 : impl_ValueOf.f u v a b = some (c, e, true)) (v3 : impl_ValueOf.f x y n d = some (c', e', f)) : f = true ∧ c' = c ∧ e' = e := by
  obtain ⟨p', X, Y, z1, z2, rfl, rfl, z3, rfl, rfl, z4⟩ := val_true v1
  rw [e1] at z1
  obtain rfl := Option.some.inj z1
  obtain ⟨q', Y', Z, w1, w2, w5, w6, w3, rfl, rfl, w4⟩ := val_true v2
  rw [e2] at w1
  obtain rfl := Option.some.inj w1
  have hYY : Y' = Y := by
    obtain ⟨y1, y2⟩ := Y
    obtain ⟨y3, y4⟩ := Y'
    simp only at w5 w6
    obtain rfl : y1 = y3 := by omega
    obtain rfl : y2 = y4 := by omega
    rfl
  subst hYY
  have hb := N.Bal.mul (p := p) (q := q) hp hq
  unfold N.Bal at hb
  have key := N.vaF_mul (p := p) (q := q) hp hq (by omega) (by omega) (by omega) z2.le z2.gap (by rw [← z4]; exact w2.gap)
  rw [← z4, ← w4] at key
  have := val_some e3 z2 w3 key
  rw [this] at v3
  simp only [Option.some.injEq, Prod.mk.injEq] at v3
  exact ⟨v3.2.2.symm, v3.1.symm, v3.2.1.symm⟩
theorem mo_l0 {l0 l1 : List Int} (h0 : Oct l0) (h1 : Oct l1) {p q : N.Tr × N.Tr} (hp : p.1.carets = p.2.carets) (hq : q.1.carets = q.2.carets) (p8 : p.2.carets ≤ 8) (q8 : q.2.carets ≤ 8) (m8 : (N.mul p q).1.carets ≤ 8) {s t u v x y : ByteArray} (e1 : N.pairT s t = some p) (e2 : N.pairT u v = some q) (e3 : N.pairT x y = some (N.mul p q)) :
    ∀ n j : Nat, 16 ≤ n + j → j ≤ 100 → Ev (fun k => laws_FnMapsOfPairs.l0 k l0 l1 (j : Int) s t u v x y) true
  | 0, j, h, _ => by
    obtain ⟨K, hK⟩ := mo_j3 h0 h1
    refine ⟨K + 1, fun k hk => ?_⟩
    obtain ⟨k, rfl⟩ : ∃ k', k = k' + 1 := ⟨k - 1, by omega⟩
    have e : laws_FnMapsOfPairs.j3 k l0 l1 = some true := hK k (by omega)
    show laws_FnMapsOfPairs.l0 (k + 1) _ _ _ _ _ _ _ _ _ = _
    rw [laws_FnMapsOfPairs.l0, if_neg (by omega), e]
  | n + 1, j, h, hj => by
    by_cases hlt : (j : Int) < 16
    · obtain ⟨K, hK⟩ := mo_l0 h0 h1 hp hq p8 q8 m8 e1 e2 e3 n (j + 2) (by omega) (by omega)
      refine ⟨K + 1, fun k hk => ?_⟩
      obtain ⟨k, rfl⟩ : ∃ k', k = k' + 1 := ⟨k - 1, by omega⟩
      have e : laws_FnMapsOfPairs.l0 k l0 l1 ((j + 2 : Nat) : Int) s t u v x y = some true := hK k (by omega)
      obtain ⟨⟨a, b, f⟩, v1⟩ : ∃ z, impl_ValueOf.f s t (j : Int) 16 = some z := ⟨_, rfl⟩
      obtain ⟨⟨a', b', f'⟩, v2⟩ : ∃ z, impl_ValueOf.f u v a b = some z := ⟨_, rfl⟩
      obtain ⟨⟨a2, b2, f2⟩, v3⟩ : ∃ z, impl_ValueOf.f x y (j : Int) 16 = some z := ⟨_, rfl⟩
      have M := fun (g1 : f = true) (g2 : f' = true) => mo_mul hp hq p8 q8 m8 e1 e2 e3 (g1 ▸ v1) (g2 ▸ v2) v3
      show laws_FnMapsOfPairs.l0 (k + 1) _ _ _ _ _ _ _ _ _ = _
      rw [laws_FnMapsOfPairs.l0, if_pos hlt, v1, Option.bind_some]
      dsimp only
      rw [v2, Option.bind_some, v3, Option.bind_some]
      dsimp only
      rw [w64 (by omega), show (j : Int) + 2 = ((j + 2 : Nat) : Int) by omega, e]
      cases f with
      | false => rw [if_neg (by decide)]
      | true =>
        cases f' with
        | false => rw [if_pos rfl, if_neg (by decide)]
        | true =>
          obtain ⟨rfl, rfl, rfl⟩ := M rfl rfl
          rw [if_pos rfl, if_pos rfl, if_pos rfl, if_neg (by simp)]
    · obtain ⟨K, hK⟩ := mo_j3 h0 h1
      refine ⟨K + 1, fun k hk => ?_⟩
      obtain ⟨k, rfl⟩ : ∃ k', k = k' + 1 := ⟨k - 1, by omega⟩
      have e : laws_FnMapsOfPairs.j3 k l0 l1 = some true := hK k (by omega)
      show laws_FnMapsOfPairs.l0 (k + 1) _ _ _ _ _ _ _ _ _ = _
      rw [laws_FnMapsOfPairs.l0, if_neg hlt, e]
theorem mo_j1 {l0 l1 : List Int} (h0 : Oct l0) (h1 : Oct l1) : Ev (fun k => laws_FnMapsOfPairs.j1 k l0 l1) true := by
  obtain ⟨⟨s, t, u, v⟩, K1, d1⟩ := drawPP_ev h1
  obtain ⟨⟨x, y, f⟩, hm⟩ : ∃ z, impl_ProductPair.f s t u v = some z := ⟨_, rfl⟩
  obtain ⟨K3, d3⟩ := mo_j3 h0 h1
  cases f with
  | false =>
    refine ⟨K1 + K3 + 1, fun k hk => ?_⟩
    obtain ⟨k, rfl⟩ : ∃ k', k = k' + 1 := ⟨k - 1, by omega⟩
    have g1 : spec_DrawProductPair.f k l1 = some (s, t, u, v) := d1 k (by omega)
    have g3 : laws_FnMapsOfPairs.j3 k l0 l1 = some true := d3 k (by omega)
    show laws_FnMapsOfPairs.j1 (k + 1) _ _ = _
    rw [laws_FnMapsOfPairs.j1, g1, Option.bind_some]
    dsimp only
    rw [hm, Option.bind_some]
    dsimp only
    rw [if_neg (by decide), g3]
  | true =>
    have hm2 := hm
    unfold impl_ProductPair.f at hm
    cases hp : N.pairT s t with
    | none => rw [hp] at hm; simp [N.noP] at hm
    | some p =>
      cases hq : N.pairT u v with
      | none => rw [hp, hq] at hm; simp [N.noP] at hm
      | some q =>
        rw [hp, hq] at hm
        obtain ⟨_, _, b1, b2⟩ := N.pairT_some hp
        obtain ⟨_, _, b3, b4⟩ := N.pairT_some hq
        replace hm := Option.some.inj hm
        simp only [N.ifF] at hm
        by_cases h8 : (N.mul p q).1.carets ≤ 8
        · rw [if_pos h8] at hm
          simp only [N.okP, Prod.mk.injEq] at hm
          have hb := N.Bal.mul (p := p) (q := q) b1 b3
          unfold N.Bal at hb
          have e3 : N.pairT x y = some (N.mul p q) := by rw [← hm.1, ← hm.2.1]; exact N.pairT_yes hb (by omega)
          obtain ⟨K2, d2⟩ := mo_l0 h0 h1 b1 b3 b2 b4 h8 hp hq e3 20 1 (by omega) (by omega)
          refine ⟨K1 + K2 + 1, fun k hk => ?_⟩
          obtain ⟨k, rfl⟩ : ∃ k', k = k' + 1 := ⟨k - 1, by omega⟩
          have g1 : spec_DrawProductPair.f k l1 = some (s, t, u, v) := d1 k (by omega)
          have g2 : laws_FnMapsOfPairs.l0 k l0 l1 1 s t u v x y = some true := d2 k (by omega)
          show laws_FnMapsOfPairs.j1 (k + 1) _ _ = _
          rw [laws_FnMapsOfPairs.j1, g1, Option.bind_some]
          dsimp only
          rw [hm2, Option.bind_some]
          dsimp only
          rw [if_pos rfl, g2]
        · rw [if_neg h8] at hm; simp [N.noP] at hm
theorem mo_j0 {l0 l1 : List Int} (h0 : Oct l0) (h1 : Oct l1) (s t : ByteArray) (n d a b : Int) (ok : Bool) (hv : impl_ValueOf.f s t n d = some (a, b, ok)) : Ev (fun k => laws_FnMapsOfPairs.j0 k l0 l1 ok false s t n d a b) true := by
  obtain ⟨K, hK⟩ := mo_j1 h0 h1
  refine ⟨K + 1, fun k hk => ?_⟩
  obtain ⟨k, rfl⟩ : ∃ k', k = k' + 1 := ⟨k - 1, by omega⟩
  have e : laws_FnMapsOfPairs.j1 k l0 l1 = some true := hK k (by omega)
  show laws_FnMapsOfPairs.j0 (k + 1) _ _ _ _ _ _ _ _ _ _ = _
  rw [laws_FnMapsOfPairs.j0, if_neg (by decide)]
  cases ok with
  | false => rw [if_neg (by decide), e]
  | true =>
    obtain ⟨p, X, Y, z1, z2, rfl, rfl, z3, rfl, rfl, z4⟩ := val_true hv
    obtain ⟨es, et, b1, b2⟩ := N.pairT_some z1
    have I : impl_InversePair.f s t = some (N.tx p.2, N.tx p.1, true) := by
      unfold impl_InversePair.f
      rw [z1]; rfl
    have pI : N.pairT (N.tx p.2) (N.tx p.1) = some (p.2, p.1) := N.pairT_yes b1.symm (by omega)
    have R : impl_ReducePair.f s t = some (N.tx (N.red p).1, N.tx (N.red p).2, true) := by
      unfold impl_ReducePair.f
      rw [z1]; rfl
    have rb : N.Bal (N.red p) := N.Bal.red (p := p) b1
    unfold N.Bal at rb
    have rle := (N.red_le p).2
    have pR : N.pairT (N.tx (N.red p).1) (N.tx (N.red p).2) = some (N.red p) := N.pairT_yes rb (by omega)
    have hB : N.Bal p := b1
    have V1 : impl_ValueOf.f (N.tx p.2) (N.tx p.1) (Y.1 : Int) (Y.2 : Int) = some ((X.1 : Int), (X.2 : Int), true) :=
      val_some pI z3 z2 (by rw [z4]; exact N.vaF_inv b1 (by omega) z2.le z2.gap (by rw [← z4]; exact z3.gap))
    have V2 : impl_ValueOf.f (N.tx (N.red p).1) (N.tx (N.red p).2) (X.1 : Int) (X.2 : Int) = some ((Y.1 : Int), (Y.2 : Int), true) :=
      val_some pR z2 z3 (by rw [z4]; exact N.vaF_red hB b2 (by omega) z2.le z2.gap)
    obtain ⟨E1, E2⟩ := N.vaF_ends b1 (by omega) z2.le z2.gap (by rw [← z4]; exact z3.gap)
    rw [← z4] at E1 E2
    have F1 : X.1 = 0 ↔ Y.1 = 0 := z2.zero.trans (E1.trans z3.zero.symm)
    have F2 : X.1 = X.2 ↔ Y.1 = Y.2 := z2.whole.trans (E2.trans z3.whole.symm)
    rw [if_pos rfl, I, Option.bind_some]
    dsimp only
    rw [V1, Option.bind_some, R, Option.bind_some]
    dsimp only
    rw [V2, Option.bind_some]
    dsimp only
    rw [if_pos rfl, if_pos rfl, if_neg (by simp), if_pos rfl, if_pos rfl, if_neg (by simp)]
    have c1 : (((X.1 : Int) == 0) != ((Y.1 : Int) == 0)) = false := by
      have : ((X.1 : Int) == 0) = ((Y.1 : Int) == 0) := by rw [Bool.eq_iff_iff, beq_iff_eq, beq_iff_eq]; omega
      rw [this]; simp
    have c2 : (((X.1 : Int) == (X.2 : Int)) != ((Y.1 : Int) == (Y.2 : Int))) = false := by
      have : ((X.1 : Int) == (X.2 : Int)) = ((Y.1 : Int) == (Y.2 : Int)) := by rw [Bool.eq_iff_iff, beq_iff_eq, beq_iff_eq]; omega
      rw [this]; simp
    rw [c1, if_neg (by decide), c2, if_neg (by decide), e]
theorem mo_law {l0 l1 : List Int} (h0 : Oct l0) (h1 : Oct l1) : ∃ k, laws_FnMapsOfPairs.f k l0 l1 = some true := by
  obtain ⟨⟨s, t, n, d⟩, K1, d1⟩ := drawVO_ev h0
  obtain ⟨b, hb⟩ : ∃ b, laws_big.f l0 l1 = some b := by
    unfold laws_big.f
    split
    · exact ⟨_, rfl⟩
    · exact ⟨_, rfl⟩
  cases b with
  | true => exact ⟨0, by unfold laws_FnMapsOfPairs.f; rw [hb, Option.bind_some, if_pos rfl]⟩
  | false =>
    obtain ⟨⟨x, y, ok⟩, hv⟩ : ∃ v, impl_ValueOf.f s t n d = some v := ⟨_, rfl⟩
    have hv' : spec_ValueOf.f s t n d = some (x, y, ok) := hv
    obtain ⟨K2, d2⟩ := mo_j0 h0 h1 s t n d x y ok hv
    refine ⟨K1 + K2, ?_⟩
    have g1 : spec_DrawValueOf.f (K1 + K2) l0 = some (s, t, n, d) := d1 _ (by omega)
    have g2 : laws_FnMapsOfPairs.j0 (K1 + K2) l0 l1 ok false s t n d x y = some true := d2 _ (by omega)
    unfold laws_FnMapsOfPairs.f
    rw [hb, Option.bind_some, if_neg (by decide), g1, Option.bind_some]
    dsimp only
    rw [hv, Option.bind_some, hv', Option.bind_some]
    dsimp only
    rw [if_neg (by simp), show (!(x == x) || (!(y == y))) = false by simp, g2]
end Go.Proofs.YtgnepbogadfinaaGreatDoor.PA
namespace Go.Proofs.YtgnepbogadfinaaGreatDoor.Pure
open Go.RowKit Go.Proofs.YtgnepbogadfinaaGreatDoor.PA Go.Proofs.YtgnepbogadfinaaGreatDoorW.PrintWords Go.Proofs.YtgnepbogadfinaaGreatDoorW.PrintLast
theorem FnMapsOfPairs : laws_FnMapsOfPairs.Pure := by
  intro l0 l1 _ _ h0 _ _ h1
  exact mo_law (oct_of3 h0) (oct_of3 h1)
end Go.Proofs.YtgnepbogadfinaaGreatDoor.Pure
