import Derived.Test.YtijnadjgmmednaaGreatZc22
/- A part of the proof: lemmas that later parts use. -/
set_option linter.unusedVariables false
set_option linter.unusedSimpArgs false
namespace Go.Proofs.YtijnadjgmmednaaGreat.PA
open Go.RowKit Go.Proofs.YtijnadjgmmednaaGreatW.PrintWords Go.Proofs.YtijnadjgmmednaaGreatW.PrintLast Go.Proofs.YtijnadjgmmednaaGreatW.PrintMore
attribute [local go_sem] max2_int min2_int max_two min_two max_three min_three max_four min_four
def laws_nReduced.f (a0_0 : ByteArray) (a0_1 : ByteArray) : Option (ByteArray × ByteArray) := (impl_ReducePair.f a0_0 a0_1).bind fun bt268 => (some (bt268.1, bt268.2.1))
set_option maxHeartbeats 8000000 in
set_option maxRecDepth 100000 in
theorem laws_nReduced.calls (a0_0 : ByteArray) (a0_1 : ByteArray) (r1 : ByteArray) (r2 : ByteArray) (w : World) (h : laws_nReduced.f a0_0 a0_1 = some (r1, r2)) :
    Calls Tryz.prog 14 #[.agg #[.string a0_0, .string a0_1]] w fun e w' => e = .returned (.agg #[.string r1, .string r2]) ∧ Below w.heap.size w w' := by
  have hu25 := Tryz.underlying25
  have HB := Aside0.mk (Below.refl w.heap.size w)
  have H : ((impl_ReducePair.f a0_0 a0_1).bind fun bt268 => (some (bt268.1, bt268.2.1))) = some (r1, r2) := h
  clear h
  replace H := Option.bind_eq_some_iff.mp H
  obtain ⟨⟨t268, t269, t270⟩, A20, H⟩ := H
  replace H : (some (t268, t269)) = some (r1, r2) := H
  have A2 := Aside0.mk A20
  clear A20
  simp only [Option.some.injEq, Prod.mk.injEq] at H
  obtain ⟨rfl, rfl⟩ := H
  go_enter Tryz.func14, Tryz.ntmps14
  go_wp2_with (first | ((with_reducible refine gate_dst (N := 1) rfl ?_); refine box_event ?hg (N := 1) ?hd (cs := #[.string a0_0, .string a0_1]) (t := 25) ?hr ?_; (case hd => rfl); (case hg => rfl); (case hr => exact lr); intro gb266 hg w3 hbox hb; have n0_ := Aside0.mk (below_step (lB HB.out) hb); have n1_ := Aside0.mk (hbox); have n2_ := gw hg (lB HB.out); have n3_ := gw hg (lB HB.out); clear HB; have HB := n0_; have BK266 := n1_; have GW266 := n2_; have GE266 := n3_; clear n0_ n1_ n2_ n3_; clear hb hbox hg) | ((with_reducible refine gate_dst (N := 2) rfl ?_); refine box_event ?hg (N := 2) ?hd (cs := #[.string (⟨#[]⟩ : ByteArray), .string (⟨#[]⟩ : ByteArray)]) (t := 25) ?hr ?_; (case hd => rfl); (case hg => rfl); (case hr => exact lr); intro gb267 hg w4 hbox hb; have n0_ := Aside0.mk (blk_below (lb BK266.out) hb); have n1_ := Aside0.mk (below_step (lB HB.out) hb); have n2_ := Aside0.mk (hbox); have n3_ := gw hg (lB HB.out); have n4_ := gw hg (lB HB.out); have n5_ := na hg (lb BK266.out); have n6_ := nz hg (lb BK266.out); clear BK266 HB; have BK266 := n0_; have HB := n1_; have BK267 := n2_; have GW267 := n3_; have GE267 := n4_; have NB266_267 := n5_; have NB267_266 := n6_; clear n0_ n1_ n2_ n3_ n4_ n5_ n6_; clear hb hbox hg; have hnb5 := NB266_267.out; have hnc5 := NB267_266.out; have hcz6_0 : w4.cell? ⟨gb266, 0, none⟩ = some (.string a0_0) := (blk_cell BK266.out 0).trans rfl; have hcz6_1 : w4.cell? ⟨gb266, 1, none⟩ = some (.string a0_1) := (blk_cell BK266.out 1).trans rfl; have hfz6_0 := blk_frozen BK266.out 0; have hfz6_1 := blk_frozen BK266.out 1) | ((with_reducible refine gate_callee (f := 45) rfl ?_); refine goesL_ (some 7) rfl rfl Tryz.func45 (by kernel_rfl) rfl #[.agg #[.string a0_0, .string a0_1]] rfl lm ?_; (with_reducible refine (impl_ReducePair.calls a0_0 a0_1 t268 t269 t270 _ A2.out).mono ?_); rintro e w7 ⟨rfl, hb⟩; refine ⟨_, rfl, ?_⟩; have n0_ := Aside0.mk (blk_below (lb BK266.out) hb); have n1_ := Aside0.mk (blk_below (lb BK267.out) hb); have n2_ := Aside0.mk (below_step (lB HB.out) hb); clear BK266 BK267 HB; have BK266 := n0_; have BK267 := n1_; have HB := n2_; clear n0_ n1_ n2_; (try clear hb); (try clear hb2); (try clear hk); (try clear hi)) | ((with_reducible refine gate_dst (N := 3) rfl ?_); refine box_event ?hg (N := 3) ?hd (cs := #[.string (⟨#[]⟩ : ByteArray), .string (⟨#[]⟩ : ByteArray)]) (t := 25) ?hr ?_; (case hd => rfl); (case hg => rfl); (case hr => exact lr); intro gb271 hg w8 hbox hb; have n0_ := Aside0.mk (blk_below (lb BK266.out) hb); have n1_ := Aside0.mk (blk_below (lb BK267.out) hb); have n2_ := Aside0.mk (below_step (lB HB.out) hb); have n3_ := Aside0.mk (hbox); have n4_ := gw hg (lB HB.out); have n5_ := gw hg (lB HB.out); have n6_ := na hg (lb BK266.out); have n7_ := nz hg (lb BK266.out); have n8_ := na hg (lb BK267.out); have n9_ := nz hg (lb BK267.out); clear BK266 BK267 HB; have BK266 := n0_; have BK267 := n1_; have HB := n2_; have BK271 := n3_; have GW271 := n4_; have GE271 := n5_; have NB266_271 := n6_; have NB271_266 := n7_; have NB267_271 := n8_; have NB271_267 := n9_; clear n0_ n1_ n2_ n3_ n4_ n5_ n6_ n7_ n8_ n9_; clear hb hbox hg; have hnb9 := NB271_266.out; have hnc9 := NB266_271.out; have hnb10 := NB271_267.out; have hnc10 := NB267_271.out; have hcz11_0 : w8.cell? ⟨gb271, 0, none⟩ = some (.string (⟨#[]⟩ : ByteArray)) := (blk_cell BK271.out 0).trans rfl; have hcz11_1 : w8.cell? ⟨gb271, 1, none⟩ = some (.string (⟨#[]⟩ : ByteArray)) := (blk_cell BK271.out 1).trans rfl; have hfz11_0 := blk_frozen BK271.out 0; have hfz11_1 := blk_frozen BK271.out 1; have hcz12_0 : w8.cell? ⟨gb267, 0, none⟩ = some (.string (⟨#[]⟩ : ByteArray)) := (blk_cell BK267.out 0).trans rfl; have hcz12_1 : w8.cell? ⟨gb267, 1, none⟩ = some (.string (⟨#[]⟩ : ByteArray)) := (blk_cell BK267.out 1).trans rfl; have hfz12_0 := blk_frozen BK267.out 0; have hfz12_1 := blk_frozen BK267.out 1))
  refine bodyPost_ret (results_cell_row rfl _ _ gb267 25 #[.string t268, .string t269] (0, 0) _ rfl (by (with_reducible repeat (first | refine blk_drewN ?_ _ | refine blk_drew ?_ | refine blk_alloc ?_ _)); refine blk_put (cs := #[.string t268, .string (⟨#[]⟩ : ByteArray)]) ?_ 1 _ rfl; (with_reducible repeat (first | refine blk_drewN ?_ _ | refine blk_drew ?_ | refine blk_alloc ?_ _)); refine blk_put (cs := #[.string (⟨#[]⟩ : ByteArray), .string (⟨#[]⟩ : ByteArray)]) ?_ 0 _ rfl; (with_reducible repeat (first | refine blk_drewN ?_ _ | refine blk_drew ?_ | refine blk_alloc ?_ _)); refine blk_far ?_ NB267_271.out _; (with_reducible repeat (first | refine blk_drewN ?_ _ | refine blk_drew ?_ | refine blk_alloc ?_ _)); refine blk_far ?_ NB267_271.out _; exact lb BK267.out) Tryz.underlying25 rfl (by kernel_rfl)) rfl ?_
  exact ⟨lx, by exact lB HB.out⟩
def spec_DrawConjugatePair.f (k : Nat) (l0 : List Int) : Option (ByteArray × ByteArray × ByteArray × ByteArray) := (spec_l1Cur_pair.f k l0 0 0 4).bind fun bt275 => ((spec_l1Cur_pair.f k l0 bt275.2.2.1 bt275.2.2.2 3).bind fun bt279 => (some (bt275.1, bt275.2.1, bt279.1, bt279.2.1)))
theorem spec_DrawConjugatePair.mono : ∀ a0 k, LeO (spec_DrawConjugatePair.f k a0) (spec_DrawConjugatePair.f (k + 1) a0) := by
  intro a0 k
  unfold spec_DrawConjugatePair.f
  repeat' first
      | (with_reducible exact spec_l1Cur_pair.mono _ _ _ _ _)
      | (with_reducible exact LeO.refl _)
      | (with_reducible exact LeO.none _)
      | (with_reducible refine LeO.ite ?_ ?_)
      | (with_reducible refine LeO.bind ?_ (fun _ => ?_))
      | exact spec_l1Cur_pair.mono _ _ _ _ _
      | exact LeO.none _
      | refine LeO.ite ?_ ?_
      | refine LeO.bind ?_ (fun _ => ?_)
set_option maxHeartbeats 8000000 in
set_option maxRecDepth 100000 in
theorem spec_DrawConjugatePair.calls (k : Nat) (A0 : Option Addr) (c0 : Nat) (l0 : List Int) (r1 : ByteArray) (r2 : ByteArray) (r3 : ByteArray) (r4 : ByteArray) (w : World) (hr0 : Kd.C (Kd.int .u8) w A0 l0.length l0) (hc0 : l0.length ≤ c0) (h : spec_DrawConjugatePair.f k l0 = some (r1, r2, r3, r4)) :
    Calls Tryz.prog 15 #[.slice A0 l0.length c0] w fun e w' => e = .returned (.tuple #[.agg #[.string r1, .string r2], .agg #[.string r3, .string r4]]) ∧ Below w.heap.size w w' := by
  have hu25 := Tryz.underlying25
  have hu54 := Tryz.underlying54
  have HR0 := Aside0.mk hr0
  have HC0 := Aside0.mk hc0
  clear hr0 hc0
  have HB := Aside0.mk (Below.refl w.heap.size w)
  have H : ((spec_l1Cur_pair.f k l0 0 0 4).bind fun bt275 => ((spec_l1Cur_pair.f k l0 bt275.2.2.1 bt275.2.2.2 3).bind fun bt279 => (some (bt275.1, bt275.2.1, bt279.1, bt279.2.1)))) = some (r1, r2, r3, r4) := h
  clear h
  replace H := Option.bind_eq_some_iff.mp H
  obtain ⟨⟨t275, t276, t277, t278⟩, A20, H⟩ := H
  replace H : ((spec_l1Cur_pair.f k l0 t277 t278 3).bind fun bt279 => (some (t275, t276, bt279.1, bt279.2.1))) = some (r1, r2, r3, r4) := H
  have A2 := Aside0.mk A20
  clear A20
  replace H := Option.bind_eq_some_iff.mp H
  obtain ⟨⟨t279, t280, t281, t282⟩, A30, H⟩ := H
  replace H : (some (t275, t276, t279, t280)) = some (r1, r2, r3, r4) := H
  have A3 := Aside0.mk A30
  clear A30
  simp only [Option.some.injEq, Prod.mk.injEq] at H
  obtain ⟨rfl, rfl, rfl, rfl⟩ := H
  go_enter Tryz.func15, Tryz.ntmps15
  go_wp2_with (first | ((with_reducible refine gate_dst (N := 2) rfl ?_); refine box_event ?hg (N := 2) ?hd (cs := #[.string (⟨#[]⟩ : ByteArray), .string (⟨#[]⟩ : ByteArray)]) (t := 25) ?hr ?_; (case hd => rfl); (case hg => rfl); (case hr => exact lr); intro gb272 hg w4 hbox hb; have n0_ := Aside0.mk (below_step (lB HB.out) hb); have n1_ := Aside0.mk (hbox); have n2_ := gw hg (lB HB.out); have n3_ := gw hg (lB HB.out); clear HB; have HB := n0_; have BK272 := n1_; have GW272 := n2_; have GE272 := n3_; clear n0_ n1_ n2_ n3_; clear hb hbox hg) | ((with_reducible refine gate_dst (N := 3) rfl ?_); refine box_event ?hg (N := 3) ?hd (cs := #[.string (⟨#[]⟩ : ByteArray), .string (⟨#[]⟩ : ByteArray)]) (t := 25) ?hr ?_; (case hd => rfl); (case hg => rfl); (case hr => exact lr); intro gb273 hg w5 hbox hb; have n0_ := Aside0.mk (blk_below (lb BK272.out) hb); have n1_ := Aside0.mk (below_step (lB HB.out) hb); have n2_ := Aside0.mk (hbox); have n3_ := gw hg (lB HB.out); have n4_ := gw hg (lB HB.out); have n5_ := na hg (lb BK272.out); have n6_ := nz hg (lb BK272.out); clear BK272 HB; have BK272 := n0_; have HB := n1_; have BK273 := n2_; have GW273 := n3_; have GE273 := n4_; have NB272_273 := n5_; have NB273_272 := n6_; clear n0_ n1_ n2_ n3_ n4_ n5_ n6_; clear hb hbox hg) | ((with_reducible refine gate_dst (N := 7) rfl ?_); refine box_event ?hg (N := 7) ?hd (cs := #[.slice A0 l0.length c0, .int .i64 0, .int .u64 0]) (t := 54) ?hr ?_; (case hd => rfl); (case hg => rfl); (case hr => exact lr); intro gb274 hg w6 hbox hb; have n0_ := Aside0.mk (blk_below (lb BK272.out) hb); have n1_ := Aside0.mk (blk_below (lb BK273.out) hb); have n2_ := Aside0.mk (below_step (lB HB.out) hb); have n3_ := gw hg (lB HB.out); have n4_ := gw hg (lB HB.out); have n5_ := na hg (lb BK272.out); have n6_ := nz hg (lb BK272.out); have n7_ := na hg (lb BK273.out); have n8_ := nz hg (lb BK273.out); have n9_ := Aside0.mk ((show IsS54 w w6 gb274 l0 0 0 from ⟨_, _, hbox, (by rw [hg]; exact (below_size (lB HB.out)) : w.heap.size ≤ gb274), HR0.out⟩)); clear BK272 BK273 HB; have BK272 := n0_; have BK273 := n1_; have HB := n2_; have GW274 := n3_; have GE274 := n4_; have NB272_274 := n5_; have NB274_272 := n6_; have NB273_274 := n7_; have NB274_273 := n8_; have HI274 := n9_; clear n0_ n1_ n2_ n3_ n4_ n5_ n6_ n7_ n8_ n9_; clear hb hbox hg) | ((with_reducible refine gate_callee (f := 25) rfl ?_); refine goesL_ (some 9) rfl rfl Tryz.func25 (by kernel_rfl) rfl #[.pointer (some ⟨gb274, 0, none⟩), .int .i64 4] rfl lm ?_; (with_reducible refine (spec_l1Cur_pair.calls k gb274 l0 0 0 4 t275 t276 t277 t278 w _ ?side1 ?side2 A2.out).mono ?_); (case side1 => exact lI54 HI274.out); (case side2 => exact lB HB.out); rintro e w7 ⟨rfl, hi, hb, hk⟩; refine ⟨_, rfl, ?_⟩; have n0_ := Aside0.mk (KeepBut.blk hk (g' := gb272) (o := .cells #[.string (⟨#[]⟩ : ByteArray), .string (⟨#[]⟩ : ByteArray)] 25 (0, 0)) (lb BK272.out) NB272_274.out (by simp)); have n1_ := Aside0.mk (KeepBut.blk hk (g' := gb273) (o := .cells #[.string (⟨#[]⟩ : ByteArray), .string (⟨#[]⟩ : ByteArray)] 25 (0, 0)) (lb BK273.out) NB273_274.out (by simp)); have n2_ := Aside0.mk (hb); have n3_ := Aside0.mk (hi); clear BK272 BK273 HB HI274; have BK272 := n0_; have BK273 := n1_; have HB := n2_; have HI274 := n3_; clear n0_ n1_ n2_ n3_; (try clear hb); (try clear hb2); (try clear hk); (try clear hi)) | ((with_reducible refine gate_callee (f := 25) rfl ?_); refine goesL_ (some 11) rfl rfl Tryz.func25 (by kernel_rfl) rfl #[.pointer (some ⟨gb274, 0, none⟩), .int .i64 3] rfl lm ?_; (with_reducible refine (spec_l1Cur_pair.calls k gb274 l0 t277 t278 3 t279 t280 t281 t282 w _ ?side1 ?side2 A3.out).mono ?_); (case side1 => exact lI54 HI274.out); (case side2 => exact lB HB.out); rintro e w8 ⟨rfl, hi, hb, hk⟩; refine ⟨_, rfl, ?_⟩; have n0_ := Aside0.mk (KeepBut.blk hk (g' := gb272) (o := .cells #[.string (⟨#[]⟩ : ByteArray), .string (⟨#[]⟩ : ByteArray)] 25 (0, 0)) (lb BK272.out) NB272_274.out (by simp)); have n1_ := Aside0.mk (KeepBut.blk hk (g' := gb273) (o := .cells #[.string (⟨#[]⟩ : ByteArray), .string (⟨#[]⟩ : ByteArray)] 25 (0, 0)) (lb BK273.out) NB273_274.out (by simp)); have n2_ := Aside0.mk (hb); have n3_ := Aside0.mk (hi); clear BK272 BK273 HB HI274; have BK272 := n0_; have BK273 := n1_; have HB := n2_; have HI274 := n3_; clear n0_ n1_ n2_ n3_; (try clear hb); (try clear hb2); (try clear hk); (try clear hi); have hnb9 := NB272_273.out; have hnc9 := NB273_272.out; have hnb10 := NB272_274.out; have hnc10 := NB274_272.out; have hcz11_0 : w8.cell? ⟨gb272, 0, none⟩ = some (.string (⟨#[]⟩ : ByteArray)) := (blk_cell BK272.out 0).trans rfl; have hcz11_1 : w8.cell? ⟨gb272, 1, none⟩ = some (.string (⟨#[]⟩ : ByteArray)) := (blk_cell BK272.out 1).trans rfl; have hfz11_0 := blk_frozen BK272.out 0; have hfz11_1 := blk_frozen BK272.out 1; have hnb12 := NB273_274.out; have hnc12 := NB274_273.out; have hcz13_0 : w8.cell? ⟨gb273, 0, none⟩ = some (.string (⟨#[]⟩ : ByteArray)) := (blk_cell BK273.out 0).trans rfl; have hcz13_1 : w8.cell? ⟨gb273, 1, none⟩ = some (.string (⟨#[]⟩ : ByteArray)) := (blk_cell BK273.out 1).trans rfl; have hfz13_0 := blk_frozen BK273.out 0; have hfz13_1 := blk_frozen BK273.out 1))
  refine bodyPost_ret (results_cc rfl _ _ gb272 gb273 25 25 #[.string t275, .string t276] #[.string t279, .string t280] (0, 0) (0, 0) _ _ rfl (by (with_reducible repeat (first | refine blk_drewN ?_ _ | refine blk_drew ?_ | refine blk_alloc ?_ _)); refine blk_far ?_ NB272_273.out _; (with_reducible repeat (first | refine blk_drewN ?_ _ | refine blk_drew ?_ | refine blk_alloc ?_ _)); refine blk_far ?_ NB272_273.out _; (with_reducible repeat (first | refine blk_drewN ?_ _ | refine blk_drew ?_ | refine blk_alloc ?_ _)); refine blk_put (cs := #[.string t275, .string (⟨#[]⟩ : ByteArray)]) ?_ 1 _ rfl; (with_reducible repeat (first | refine blk_drewN ?_ _ | refine blk_drew ?_ | refine blk_alloc ?_ _)); refine blk_put (cs := #[.string (⟨#[]⟩ : ByteArray), .string (⟨#[]⟩ : ByteArray)]) ?_ 0 _ rfl; exact lb BK272.out) Tryz.underlying25 rfl (by kernel_rfl) rfl (by (with_reducible repeat (first | refine blk_drewN ?_ _ | refine blk_drew ?_ | refine blk_alloc ?_ _)); refine blk_put (cs := #[.string t279, .string (⟨#[]⟩ : ByteArray)]) ?_ 1 _ rfl; (with_reducible repeat (first | refine blk_drewN ?_ _ | refine blk_drew ?_ | refine blk_alloc ?_ _)); refine blk_put (cs := #[.string (⟨#[]⟩ : ByteArray), .string (⟨#[]⟩ : ByteArray)]) ?_ 0 _ rfl; (with_reducible repeat (first | refine blk_drewN ?_ _ | refine blk_drew ?_ | refine blk_alloc ?_ _)); refine blk_far ?_ NB273_272.out _; (with_reducible repeat (first | refine blk_drewN ?_ _ | refine blk_drew ?_ | refine blk_alloc ?_ _)); refine blk_far ?_ NB273_272.out _; exact lb BK273.out) Tryz.underlying25 rfl (by kernel_rfl)) rfl ?_
  exact ⟨lx, by exact lB HB.out⟩
def spec_DrawConjugateByWord.l0 : Nat → List Int → List Int → Int → Int → Option (ByteArray × ByteArray × List Int)
  | 0, _, _, _, _ => none
  | k + 1, x5, x285000, x285001, x285002 => (spec_l1Cur_pick.f x285000 x285001 x285002 2).bind fun bt306 => (if (x5.length : Int) < (wrap64 (6 + bt306.1)) then (if x5.length < 17592186044416 then (spec_DrawConjugateByWord.l0 k (x5 ++ [1]) x285000 bt306.2.1 bt306.2.2) else (none)) else ((spec_l1Cur_pair.f k x285000 bt306.2.1 bt306.2.2 3).bind fun bt312 => (some (bt312.1, bt312.2.1, x5))))
def spec_DrawConjugateByWord.f (k : Nat) (l0 : List Int) : Option (ByteArray × ByteArray × List Int) := (spec_l1Cur_sureWord.f k l0 0 0 4 2).bind fun bt285 => ((spec_l1Cur_pick.f l0 bt285.2.1 bt285.2.2 14).bind fun bt290 => (if bt290.1 = 0 then ((spec_l1Cur_among.f l0 bt290.2.1 bt290.2.2 (([3, 0, (-3)] : List Int))).bind fun bt296 => (if bt285.1.length < 17592186044416 then ((spec_l1Cur_pair.f k l0 bt296.2.1 bt296.2.2 3).bind fun bt302 => (some (bt302.1, bt302.2.1, (bt285.1 ++ [bt296.1])))) else (none))) else (if bt290.1 = 1 then (spec_DrawConjugateByWord.l0 k bt285.1 l0 bt290.2.1 bt290.2.2) else ((spec_l1Cur_pair.f k l0 bt290.2.1 bt290.2.2 3).bind fun bt316 => (some (bt316.1, bt316.2.1, bt285.1))))))
theorem spec_DrawConjugateByWord.mono_l : ∀ k, (∀ y0 y1 y2 y3, LeO (spec_DrawConjugateByWord.l0 k y0 y1 y2 y3) (spec_DrawConjugateByWord.l0 (k + 1) y0 y1 y2 y3))
  | 0 => fun _ _ _ _ r h => by simp [spec_DrawConjugateByWord.l0] at h
  | k + 1 => by
    have ih0 := spec_DrawConjugateByWord.mono_l k
    · intro y0 y1 y2 y3
      unfold spec_DrawConjugateByWord.l0
      repeat' first
      | (with_reducible exact ih0 _ _ _ _)
      | (with_reducible exact spec_l1Cur_pair.mono _ _ _ _ _)
      | (with_reducible exact spec_l1Cur_sureWord.mono _ _ _ _ _ _)
      | (with_reducible exact LeO.refl _)
      | (with_reducible exact LeO.none _)
      | (with_reducible refine LeO.ite ?_ ?_)
      | (with_reducible refine LeO.bind ?_ (fun _ => ?_))
      | exact ih0 _ _ _ _
      | exact spec_l1Cur_pair.mono _ _ _ _ _
      | exact spec_l1Cur_sureWord.mono _ _ _ _ _ _
      | exact LeO.none _
      | refine LeO.ite ?_ ?_
      | refine LeO.bind ?_ (fun _ => ?_)
theorem spec_DrawConjugateByWord.mono : ∀ a0 k, LeO (spec_DrawConjugateByWord.f k a0) (spec_DrawConjugateByWord.f (k + 1) a0) := by
  intro a0 k
  have ih0 := spec_DrawConjugateByWord.mono_l k
  unfold spec_DrawConjugateByWord.f
  repeat' first
      | (with_reducible exact ih0 _ _ _ _)
      | (with_reducible exact spec_l1Cur_pair.mono _ _ _ _ _)
      | (with_reducible exact spec_l1Cur_sureWord.mono _ _ _ _ _ _)
      | (with_reducible exact LeO.refl _)
      | (with_reducible exact LeO.none _)
      | (with_reducible refine LeO.ite ?_ ?_)
      | (with_reducible refine LeO.bind ?_ (fun _ => ?_))
      | exact ih0 _ _ _ _
      | exact spec_l1Cur_pair.mono _ _ _ _ _
      | exact spec_l1Cur_sureWord.mono _ _ _ _ _ _
      | exact LeO.none _
      | refine LeO.ite ?_ ?_
      | refine LeO.bind ?_ (fun _ => ?_)
set_option maxHeartbeats 8000000 in
set_option maxRecDepth 100000 in
theorem spec_DrawConjugateByWord.calls (k : Nat) (A0 : Option Addr) (c0 : Nat) (l0 : List Int) (r1 : ByteArray) (r2 : ByteArray) (r3 : List Int) (w : World) (hr0 : Kd.C (Kd.int .u8) w A0 l0.length l0) (hc0 : l0.length ≤ c0) (h : spec_DrawConjugateByWord.f k l0 = some (r1, r2, r3)) :
    Calls Tryz.prog 18 #[.slice A0 l0.length c0] w fun e w' => ∃ v2_ : Value, e = .returned (.tuple #[.agg #[.string r1, .string r2], v2_]) ∧ Kd.R (Kd.int .i64) 3 w' w.heap.size (fun _ => True) v2_ r3 ∧ Below w.heap.size w w' := by
  have hu25 := Tryz.underlying25
  have hu54 := Tryz.underlying54
  have HR0 := Aside0.mk hr0
  have HC0 := Aside0.mk hc0
  clear hr0 hc0
  have HB := Aside0.mk (Below.refl w.heap.size w)
  have H : ((spec_l1Cur_sureWord.f k l0 0 0 4 2).bind fun bt285 => ((spec_l1Cur_pick.f l0 bt285.2.1 bt285.2.2 14).bind fun bt290 => (if bt290.1 = 0 then ((spec_l1Cur_among.f l0 bt290.2.1 bt290.2.2 (([3, 0, (-3)] : List Int))).bind fun bt296 => (if bt285.1.length < 17592186044416 then ((spec_l1Cur_pair.f k l0 bt296.2.1 bt296.2.2 3).bind fun bt302 => (some (bt302.1, bt302.2.1, (bt285.1 ++ [bt296.1])))) else (none))) else (if bt290.1 = 1 then (spec_DrawConjugateByWord.l0 k bt285.1 l0 bt290.2.1 bt290.2.2) else ((spec_l1Cur_pair.f k l0 bt290.2.1 bt290.2.2 3).bind fun bt316 => (some (bt316.1, bt316.2.1, bt285.1))))))) = some (r1, r2, r3) := h
  clear h
  replace H := Option.bind_eq_some_iff.mp H
  obtain ⟨⟨t285, t288, t289⟩, A20, H⟩ := H
  replace H : ((spec_l1Cur_pick.f l0 t288 t289 14).bind fun bt290 => (if bt290.1 = 0 then ((spec_l1Cur_among.f l0 bt290.2.1 bt290.2.2 (([3, 0, (-3)] : List Int))).bind fun bt296 => (if t285.length < 17592186044416 then ((spec_l1Cur_pair.f k l0 bt296.2.1 bt296.2.2 3).bind fun bt302 => (some (bt302.1, bt302.2.1, (t285 ++ [bt296.1])))) else (none))) else (if bt290.1 = 1 then (spec_DrawConjugateByWord.l0 k t285 l0 bt290.2.1 bt290.2.2) else ((spec_l1Cur_pair.f k l0 bt290.2.1 bt290.2.2 3).bind fun bt316 => (some (bt316.1, bt316.2.1, t285)))))) = some (r1, r2, r3) := H
  have A2 := Aside0.mk A20
  clear A20
  replace H := Option.bind_eq_some_iff.mp H
  obtain ⟨⟨t290, t291, t292⟩, A30, H⟩ := H
  replace H : (if t290 = 0 then ((spec_l1Cur_among.f l0 t291 t292 (([3, 0, (-3)] : List Int))).bind fun bt296 => (if t285.length < 17592186044416 then ((spec_l1Cur_pair.f k l0 bt296.2.1 bt296.2.2 3).bind fun bt302 => (some (bt302.1, bt302.2.1, (t285 ++ [bt296.1])))) else (none))) else (if t290 = 1 then (spec_DrawConjugateByWord.l0 k t285 l0 t291 t292) else ((spec_l1Cur_pair.f k l0 t291 t292 3).bind fun bt316 => (some (bt316.1, bt316.2.1, t285))))) = some (r1, r2, r3) := H
  have A3 := Aside0.mk A30
  clear A30
  by_cases c4 : t290 = 0
  · rw [if_pos c4] at H
    have c4b0 : (t290 == 0) = true := beq_iff_eq.mpr c4
    have c4b1 : (t290 != 0) = false := bne_eq_false_iff_eq.mpr c4
    clear c4
    obtain ⟨y293, hy293⟩ : ∃ y_ : List Int, y_ = (([3, 0, (-3)] : List Int)) := ⟨_, rfl⟩
    replace H : ((spec_l1Cur_among.f l0 t291 t292 y293).bind fun bt296 => (if t285.length < 17592186044416 then ((spec_l1Cur_pair.f k l0 bt296.2.1 bt296.2.2 3).bind fun bt302 => (some (bt302.1, bt302.2.1, (t285 ++ [bt296.1])))) else (none))) = some (r1, r2, r3) := by first | (rw [hy293]; with_reducible exact H) | (have H2_ := (Option.bind_some _ _).symm.trans H; rw [hy293]; with_reducible exact H2_) | (have H2_ := (Option.bind_some _ _).symm.trans H; with_reducible exact H2_) | with_reducible exact H | (rw [hy293]; exact H) | exact H
    have Ny293 := Aside0.mk hy293
    clear hy293
    replace H := Option.bind_eq_some_iff.mp H
    obtain ⟨⟨t296, t297, t298⟩, A50, H⟩ := H
    replace H : (if t285.length < 17592186044416 then ((spec_l1Cur_pair.f k l0 t297 t298 3).bind fun bt302 => (some (bt302.1, bt302.2.1, (t285 ++ [t296])))) else (none)) = some (r1, r2, r3) := H
    have A5 := Aside0.mk A50
    clear A50
    by_cases c6 : t285.length < 17592186044416
    rotate_left
    · rw [if_neg c6] at H
      exact absurd H (by simp)
    rw [if_pos c6] at H
    have LMc6 := Aside0.mk c6
    clear c6
    obtain ⟨y299, hy299⟩ : ∃ y_ : List Int, y_ = (t285 ++ [t296]) := ⟨_, rfl⟩
    replace H : ((spec_l1Cur_pair.f k l0 t297 t298 3).bind fun bt302 => (some (bt302.1, bt302.2.1, y299))) = some (r1, r2, r3) := by first | (rw [hy299]; with_reducible exact H) | (have H2_ := (Option.bind_some _ _).symm.trans H; rw [hy299]; with_reducible exact H2_) | (have H2_ := (Option.bind_some _ _).symm.trans H; with_reducible exact H2_) | with_reducible exact H | (rw [hy299]; exact H) | exact H
    have Ny299 := Aside0.mk hy299
    clear hy299
    replace H := Option.bind_eq_some_iff.mp H
    obtain ⟨⟨t302, t303, t304, t305⟩, A70, H⟩ := H
    replace H : (some (t302, t303, y299)) = some (r1, r2, r3) := H
    have A7 := Aside0.mk A70
    clear A70
    simp only [Option.some.injEq, Prod.mk.injEq] at H
    obtain ⟨rfl, rfl, rfl⟩ := H
    go_enter Tryz.func18, Tryz.ntmps18
    go_wp2_with (first | ((with_reducible refine gate_dst (N := 2) rfl ?_); refine box_event ?hg (N := 2) ?hd (cs := #[.string (⟨#[]⟩ : ByteArray), .string (⟨#[]⟩ : ByteArray)]) (t := 25) ?hr ?_; (case hd => rfl); (case hg => rfl); (case hr => exact lr); intro gb283 hg w8 hbox hb; have n0_ := Aside0.mk (below_step (lB HB.out) hb); have n1_ := Aside0.mk (hbox); have n2_ := gw hg (lB HB.out); have n3_ := gw hg (lB HB.out); clear HB; have HB := n0_; have BK283 := n1_; have GW283 := n2_; have GE283 := n3_; clear n0_ n1_ n2_ n3_; clear hb hbox hg) | ((with_reducible refine gate_dst (N := 8) rfl ?_); refine box_event ?hg (N := 8) ?hd (cs := #[.slice A0 l0.length c0, .int .i64 0, .int .u64 0]) (t := 54) ?hr ?_; (case hd => rfl); (case hg => rfl); (case hr => exact lr); intro gb284 hg w9 hbox hb; have n0_ := Aside0.mk (blk_below (lb BK283.out) hb); have n1_ := Aside0.mk (below_step (lB HB.out) hb); have n2_ := gw hg (lB HB.out); have n3_ := gw hg (lB HB.out); have n4_ := na hg (lb BK283.out); have n5_ := nz hg (lb BK283.out); have n6_ := Aside0.mk ((show IsS54 w w9 gb284 l0 0 0 from ⟨_, _, hbox, (by rw [hg]; exact (below_size (lB HB.out)) : w.heap.size ≤ gb284), HR0.out⟩)); clear BK283 HB; have BK283 := n0_; have HB := n1_; have GW284 := n2_; have GE284 := n3_; have NB283_284 := n4_; have NB284_283 := n5_; have HI284 := n6_; clear n0_ n1_ n2_ n3_ n4_ n5_ n6_; clear hb hbox hg) | ((with_reducible refine gate_callee (f := 48) rfl ?_); refine goesL_ (some 10) rfl rfl Tryz.func48 (by kernel_rfl) rfl #[.pointer (some ⟨gb284, 0, none⟩), .int .i64 4, .int .i64 2] rfl lm ?_; (with_reducible refine (spec_l1Cur_sureWord.calls k gb284 l0 0 0 4 2 t285 t288 t289 w _ ?side1 ?side2 A2.out).mono ?_); (case side1 => exact lI54 HI284.out); (case side2 => exact lB HB.out); rintro e w10 ⟨v286, rfl, ho0, hi, hb, hk⟩; refine ⟨_, rfl, ?_⟩; have n0_ := Aside0.mk (KeepBut.blk hk (g' := gb283) (o := .cells #[.string (⟨#[]⟩ : ByteArray), .string (⟨#[]⟩ : ByteArray)] 25 (0, 0)) (lb BK283.out) NB283_284.out (by simp)); have n1_ := Aside0.mk (Kd.R_lower ho0 (below_size (lB HB.out))); have n2_ := Aside0.mk (hb); have n3_ := Aside0.mk (hi); clear BK283 HB HI284; have BK283 := n0_; have HO287 := n1_; have HB := n2_; have HI284 := n3_; clear n0_ n1_ n2_ n3_; (try clear hb); (try clear hb2); (try clear hk); (try clear hi); (try clear ho0)) | ((with_reducible refine gate_callee (f := 49) rfl ?_); refine goesL_ (some 12) rfl rfl Tryz.func49 (by kernel_rfl) rfl #[.pointer (some ⟨gb284, 0, none⟩), .int .i64 14] rfl lm ?_; (with_reducible refine (spec_l1Cur_pick.calls gb284 l0 t288 t289 14 t290 t291 t292 w _ ?side1 ?side2 A3.out).mono ?_); (case side1 => exact lI54 HI284.out); (case side2 => exact lB HB.out); rintro e w11 ⟨rfl, hi, hb, hk⟩; refine ⟨_, rfl, ?_⟩; have n0_ := Aside0.mk (KeepBut.blk hk (g' := gb283) (o := .cells #[.string (⟨#[]⟩ : ByteArray), .string (⟨#[]⟩ : ByteArray)] 25 (0, 0)) (lb BK283.out) NB283_284.out (by simp)); have n1_ := Aside0.mk (Kd.R_mono (Kd.R_keep (IsS54.apart (show IsS54 w _ gb284 l0 t288 t289 from by exact lI54 HI284.out) (by (with_reducible repeat (first | apply Kd.R_alloc | apply Kd.R_drewN | apply Kd.R_drew)); exact HO287.out) (by decide)) hk (fun _ h => h.2)) (fun _ h => h.1)); have n2_ := Aside0.mk (hb); have n3_ := Aside0.mk (hi); clear BK283 HO287 HB HI284; have BK283 := n0_; have HO287 := n1_; have HB := n2_; have HI284 := n3_; clear n0_ n1_ n2_ n3_; (try clear hb); (try clear hb2); (try clear hk); (try clear hi)) | ((with_reducible refine gate_dst (N := 17) rfl ?_); refine Kd.R_lit (Kd.int .i64) _ 3 ?hg (N := 17) ?hd (xs := ([3, 0, (-3)] : List Int)) (inner := [.int .i64 3, .int .i64 0, .int .i64 (-3)]) (ok := fun _ => True) (okp := fun _ => True) ?hr ?hp (fun _ hk => hk) trivial (Below.refl _ _) (Nat.le_refl _) (by simp) ?_; (case hd => rfl); (case hg => rfl); (case hr => exact lr); (case hp => exact (Reps.one (show Kd.M (Kd.int .i64) _ _ _ 3 [.int .i64 3] from rfl) (Reps.one (show Kd.M (Kd.int .i64) _ _ _ 0 [.int .i64 0] from rfl) (Reps.one (show Kd.M (Kd.int .i64) _ _ _ (-3) [.int .i64 (-3)] from rfl) (Reps.none _ _))))); intro v294 w12 ho13 hb hg_ hnew_; clear hg_ hnew_; (first | rw [← Ny293.out] at ho13 | (simp only [Int.reduceToNat] at ho13; rw [← Ny293.out] at ho13)); have n0_ := Aside0.mk (Kd.R_elder' (by (with_reducible repeat (first | apply Kd.R_alloc | apply Kd.R_drewN | apply Kd.R_drew)); exact HO287.out) (Kd.R_base ho13) hb); have n1_ := Aside0.mk (Kd.R_lower (Kd.R_new' ho13 (Kd.R_lt (by (with_reducible repeat (first | apply Kd.R_alloc | apply Kd.R_drewN | apply Kd.R_drew)); exact HO287.out))) (below_size (lB HB.out))); have n2_ := Aside0.mk (blk_below (lb BK283.out) hb); have n3_ := Aside0.mk (IsS54.below (lI54 HI284.out) hb); have n4_ := Aside0.mk (below_step (lB HB.out) hb); clear HO287 BK283 HI284 HB; have HO287 := n0_; have HO295 := n1_; have BK283 := n2_; have HI284 := n3_; have HB := n4_; clear n0_ n1_ n2_ n3_ n4_; clear hb ho13; obtain ⟨Ao14, co14, eo14⟩ := Kd.R_slice HO295.out; subst eo14) | ((with_reducible refine gate_callee (f := 26) rfl ?_); refine goesL_ (some 18) rfl rfl Tryz.func26 (by kernel_rfl) rfl #[.pointer (some ⟨gb284, 0, none⟩), .slice Ao14 y293.length co14] rfl lm ?_; (with_reducible refine (spec_l1Cur_among.calls gb284 l0 t291 t292 _ _ y293 t296 t297 t298 w _ ?side1 ?side2 ?side3 ?side4 ?side5 A5.out).mono ?_); (case side1 => exact lI54 HI284.out); (case side2 => exact lB HB.out); (case side3 => repeat (first | exact (Kd.R_reads' HO295.out).2.2 | (with_reducible refine Kd.C_alloc ?_ _) | (with_reducible refine Kd.C_drewN ?_ _) | (with_reducible refine Kd.C_drew ?_))); (case side4 => exact (Kd.R_reads' HO295.out).2.1); (case side5 => exact far_slice (IsS54.own_ne HI284.out HO295.out (by decide))); rintro e w15 ⟨rfl, hi, hb, hk⟩; refine ⟨_, rfl, ?_⟩; have n0_ := Aside0.mk (KeepBut.blk hk (g' := gb283) (o := .cells #[.string (⟨#[]⟩ : ByteArray), .string (⟨#[]⟩ : ByteArray)] 25 (0, 0)) (lb BK283.out) NB283_284.out (by simp)); have n1_ := Aside0.mk (Kd.R_mono (Kd.R_keep (IsS54.apart (show IsS54 w _ gb284 l0 t291 t292 from by exact lI54 HI284.out) (by (with_reducible repeat (first | apply Kd.R_alloc | apply Kd.R_drewN | apply Kd.R_drew)); exact HO287.out) (by decide)) hk (fun _ h => h.2)) (fun _ h => h.1)); have n2_ := Aside0.mk (Kd.R_mono (Kd.R_keep (IsS54.apart (show IsS54 w _ gb284 l0 t291 t292 from by exact lI54 HI284.out) (by (with_reducible repeat (first | apply Kd.R_alloc | apply Kd.R_drewN | apply Kd.R_drew)); exact HO295.out) (by decide)) hk (fun _ h => h.2)) (fun _ h => h.1)); have n3_ := Aside0.mk (hb); have n4_ := Aside0.mk (hi); clear BK283 HO287 HO295 HB HI284; have BK283 := n0_; have HO287 := n1_; have HO295 := n2_; have HB := n3_; have HI284 := n4_; clear n0_ n1_ n2_ n3_ n4_; (try clear hb); (try clear hb2); (try clear hk); (try clear hi)) | ((with_reducible refine gate_builtin (b := .append) (xs := #[.tmp 15, .tmp 19]) rfl ?_); at_builtin; refine Kd.R_append (Kd.int .i64) (w0 := w) w.heap.size rfl (.tmp 15) (.tmp 19) 28 3 (.int .i64 0) 8 rfl Tryz.underlying28 info3 rfl (by decide) (by omega) v286 t285 t296 [.int .i64 t296] (fun k_ => some k_ ≠ (.slice Ao14 y293.length co14 : Value).ownBlock) (fun _ => False) rfl rfl ?aP (fun _ hk => hk.elim) ?aF ?aO ?aB ?aS ?aL ?_; (case aP => exact rfl); (case aB => exact (lB HB.out)); (case aF => exact (fun k_ hk => Kd.fresh' (Kd.R_lt (by (with_reducible repeat (first | apply Kd.R_alloc | apply Kd.R_drewN | apply Kd.R_drew)); exact HO295.out)) k_ hk)); (case aO => exact (by (with_reducible repeat (first | apply Kd.R_alloc | apply Kd.R_drewN | apply Kd.R_drew)); exact Kd.R_mono HO287.out (fun _ hk => hk.2))); (case aS => exact (below_size (lB HB.out))); (case aL => have := LMc6.out; omega); intro v300 w16 ho hb hg hat; rw [← Ny299.out] at ho; have n0_ := Aside0.mk (blk_grown (g := gb283) (o := .cells #[.string (⟨#[]⟩ : ByteArray), .string (⟨#[]⟩ : ByteArray)] 25 (0, 0)) (lb BK283.out) hg (Kd.R_ne HO287.out BK283.out (by decide))); have n1_ := Aside0.mk (IsS54.grown (lI54 HI284.out) hg (IsS54.own_ne HI284.out HO287.out (by decide))); have n2_ := Aside0.mk (Kd.R_after (ok := (fun _ => True)) (by (with_reducible repeat (first | apply Kd.R_alloc | apply Kd.R_drewN | apply Kd.R_drew)); exact HO295.out) hg hat); have n3_ := Aside0.mk (hb); have n4_ := Aside0.mk (ho); clear BK283 HI284 HO295 HB HO287; have BK283 := n0_; have HI284 := n1_; have HO295 := n2_; have HB := n3_; have HO301 := n4_; clear n0_ n1_ n2_ n3_ n4_; clear ho hb hg hat) | ((with_reducible refine gate_callee (f := 25) rfl ?_); refine goesL_ (some 33) rfl rfl Tryz.func25 (by kernel_rfl) rfl #[.pointer (some ⟨gb284, 0, none⟩), .int .i64 3] rfl lm ?_; (with_reducible refine (spec_l1Cur_pair.calls k gb284 l0 t297 t298 3 t302 t303 t304 t305 w _ ?side1 ?side2 A7.out).mono ?_); (case side1 => exact lI54 HI284.out); (case side2 => exact lB HB.out); rintro e w17 ⟨rfl, hi, hb, hk⟩; refine ⟨_, rfl, ?_⟩; have n0_ := Aside0.mk (KeepBut.blk hk (g' := gb283) (o := .cells #[.string (⟨#[]⟩ : ByteArray), .string (⟨#[]⟩ : ByteArray)] 25 (0, 0)) (lb BK283.out) NB283_284.out (by simp)); have n1_ := Aside0.mk (Kd.R_mono (Kd.R_keep (IsS54.apart (show IsS54 w _ gb284 l0 t297 t298 from by exact lI54 HI284.out) (by (with_reducible repeat (first | apply Kd.R_alloc | apply Kd.R_drewN | apply Kd.R_drew)); exact HO295.out) (by decide)) hk (fun _ h => h.2)) (fun _ h => h.1)); have n2_ := Aside0.mk (Kd.R_mono (Kd.R_keep (IsS54.apart (show IsS54 w _ gb284 l0 t297 t298 from by exact lI54 HI284.out) (by (with_reducible repeat (first | apply Kd.R_alloc | apply Kd.R_drewN | apply Kd.R_drew)); exact HO301.out) (by decide)) hk (fun _ h => h.2)) (fun _ h => h.1)); have n3_ := Aside0.mk (hb); have n4_ := Aside0.mk (hi); clear BK283 HO295 HO301 HB HI284; have BK283 := n0_; have HO295 := n1_; have HO301 := n2_; have HB := n3_; have HI284 := n4_; clear n0_ n1_ n2_ n3_ n4_; (try clear hb); (try clear hb2); (try clear hk); (try clear hi); have hnb18 := NB283_284.out; have hnc18 := NB284_283.out; have hcz19_0 : w17.cell? ⟨gb283, 0, none⟩ = some (.string (⟨#[]⟩ : ByteArray)) := (blk_cell BK283.out 0).trans rfl; have hcz19_1 : w17.cell? ⟨gb283, 1, none⟩ = some (.string (⟨#[]⟩ : ByteArray)) := (blk_cell BK283.out 1).trans rfl; have hfz19_0 := blk_frozen BK283.out 0; have hfz19_1 := blk_frozen BK283.out 1))
    refine bodyPost_ret (results_ct rfl _ _ gb283 25 #[.string t302, .string t303] (0, 0) _ rfl (by (with_reducible repeat (first | refine blk_drewN ?_ _ | refine blk_drew ?_ | refine blk_alloc ?_ _)); refine blk_put (cs := #[.string t302, .string (⟨#[]⟩ : ByteArray)]) ?_ 1 _ rfl; (with_reducible repeat (first | refine blk_drewN ?_ _ | refine blk_drew ?_ | refine blk_alloc ?_ _)); refine blk_put (cs := #[.string (⟨#[]⟩ : ByteArray), .string (⟨#[]⟩ : ByteArray)]) ?_ 0 _ rfl; exact lb BK283.out) Tryz.underlying25 rfl (by kernel_rfl)) rfl ?_
    exact ⟨_, lx, by (with_reducible repeat (first | apply Kd.R_alloc | apply Kd.R_drewN | apply Kd.R_drew)); exact Kd.R_mono (Kd.R_far (p := ⟨gb283, 1, none⟩) (Kd.R_far (p := ⟨gb283, 0, none⟩) (Kd.R_types HO301.out BK283.out (by decide)) (fun _ hk => hk.2) (.string t302)) (fun _ hk => hk.2) (.string t303)) (fun _ hk => trivial), by exact lB HB.out⟩
  rw [if_neg c4] at H
  have c4b0 : (t290 == 0) = false := beq_eq_false_iff_ne.mpr c4
  have c4b1 : (t290 != 0) = true := bne_iff_ne.mpr c4
  by_cases c20 : t290 = 1
  rotate_left
  · rw [if_neg c20] at H
    have c20b0 : (t290 == 1) = false := beq_eq_false_iff_ne.mpr c20
    have c20b1 : (t290 != 1) = true := bne_iff_ne.mpr c20
    replace H := Option.bind_eq_some_iff.mp H
    obtain ⟨⟨t316, t317, t318, t319⟩, A370, H⟩ := H
    replace H : (some (t316, t317, t285)) = some (r1, r2, r3) := H
    have A37 := Aside0.mk A370
    clear A370
    simp only [Option.some.injEq, Prod.mk.injEq] at H
    obtain ⟨rfl, rfl, rfl⟩ := H
    go_enter Tryz.func18, Tryz.ntmps18
    go_wp2_with (first | ((with_reducible refine gate_dst (N := 2) rfl ?_); refine box_event ?hg (N := 2) ?hd (cs := #[.string (⟨#[]⟩ : ByteArray), .string (⟨#[]⟩ : ByteArray)]) (t := 25) ?hr ?_; (case hd => rfl); (case hg => rfl); (case hr => exact lr); intro gb283 hg w38 hbox hb; have n0_ := Aside0.mk (below_step (lB HB.out) hb); have n1_ := Aside0.mk (hbox); have n2_ := gw hg (lB HB.out); have n3_ := gw hg (lB HB.out); clear HB; have HB := n0_; have BK283 := n1_; have GW283 := n2_; have GE283 := n3_; clear n0_ n1_ n2_ n3_; clear hb hbox hg) | ((with_reducible refine gate_dst (N := 8) rfl ?_); refine box_event ?hg (N := 8) ?hd (cs := #[.slice A0 l0.length c0, .int .i64 0, .int .u64 0]) (t := 54) ?hr ?_; (case hd => rfl); (case hg => rfl); (case hr => exact lr); intro gb284 hg w39 hbox hb; have n0_ := Aside0.mk (blk_below (lb BK283.out) hb); have n1_ := Aside0.mk (below_step (lB HB.out) hb); have n2_ := gw hg (lB HB.out); have n3_ := gw hg (lB HB.out); have n4_ := na hg (lb BK283.out); have n5_ := nz hg (lb BK283.out); have n6_ := Aside0.mk ((show IsS54 w w39 gb284 l0 0 0 from ⟨_, _, hbox, (by rw [hg]; exact (below_size (lB HB.out)) : w.heap.size ≤ gb284), HR0.out⟩)); clear BK283 HB; have BK283 := n0_; have HB := n1_; have GW284 := n2_; have GE284 := n3_; have NB283_284 := n4_; have NB284_283 := n5_; have HI284 := n6_; clear n0_ n1_ n2_ n3_ n4_ n5_ n6_; clear hb hbox hg) | ((with_reducible refine gate_callee (f := 48) rfl ?_); refine goesL_ (some 10) rfl rfl Tryz.func48 (by kernel_rfl) rfl #[.pointer (some ⟨gb284, 0, none⟩), .int .i64 4, .int .i64 2] rfl lm ?_; (with_reducible refine (spec_l1Cur_sureWord.calls k gb284 l0 0 0 4 2 t285 t288 t289 w _ ?side1 ?side2 A2.out).mono ?_); (case side1 => exact lI54 HI284.out); (case side2 => exact lB HB.out); rintro e w40 ⟨v286, rfl, ho0, hi, hb, hk⟩; refine ⟨_, rfl, ?_⟩; have n0_ := Aside0.mk (KeepBut.blk hk (g' := gb283) (o := .cells #[.string (⟨#[]⟩ : ByteArray), .string (⟨#[]⟩ : ByteArray)] 25 (0, 0)) (lb BK283.out) NB283_284.out (by simp)); have n1_ := Aside0.mk (Kd.R_lower ho0 (below_size (lB HB.out))); have n2_ := Aside0.mk (hb); have n3_ := Aside0.mk (hi); clear BK283 HB HI284; have BK283 := n0_; have HO287 := n1_; have HB := n2_; have HI284 := n3_; clear n0_ n1_ n2_ n3_; (try clear hb); (try clear hb2); (try clear hk); (try clear hi); (try clear ho0)) | ((with_reducible refine gate_callee (f := 49) rfl ?_); refine goesL_ (some 12) rfl rfl Tryz.func49 (by kernel_rfl) rfl #[.pointer (some ⟨gb284, 0, none⟩), .int .i64 14] rfl lm ?_; (with_reducible refine (spec_l1Cur_pick.calls gb284 l0 t288 t289 14 t290 t291 t292 w _ ?side1 ?side2 A3.out).mono ?_); (case side1 => exact lI54 HI284.out); (case side2 => exact lB HB.out); rintro e w41 ⟨rfl, hi, hb, hk⟩; refine ⟨_, rfl, ?_⟩; have n0_ := Aside0.mk (KeepBut.blk hk (g' := gb283) (o := .cells #[.string (⟨#[]⟩ : ByteArray), .string (⟨#[]⟩ : ByteArray)] 25 (0, 0)) (lb BK283.out) NB283_284.out (by simp)); have n1_ := Aside0.mk (Kd.R_mono (Kd.R_keep (IsS54.apart (show IsS54 w _ gb284 l0 t288 t289 from by exact lI54 HI284.out) (by (with_reducible repeat (first | apply Kd.R_alloc | apply Kd.R_drewN | apply Kd.R_drew)); exact HO287.out) (by decide)) hk (fun _ h => h.2)) (fun _ h => h.1)); have n2_ := Aside0.mk (hb); have n3_ := Aside0.mk (hi); clear BK283 HO287 HB HI284; have BK283 := n0_; have HO287 := n1_; have HB := n2_; have HI284 := n3_; clear n0_ n1_ n2_ n3_; (try clear hb); (try clear hb2); (try clear hk); (try clear hi)) | ((with_reducible refine gate_callee (f := 25) rfl ?_); refine goesL_ (some 33) rfl rfl Tryz.func25 (by kernel_rfl) rfl #[.pointer (some ⟨gb284, 0, none⟩), .int .i64 3] rfl lm ?_; (with_reducible refine (spec_l1Cur_pair.calls k gb284 l0 t291 t292 3 t316 t317 t318 t319 w _ ?side1 ?side2 A37.out).mono ?_); (case side1 => exact lI54 HI284.out); (case side2 => exact lB HB.out); rintro e w42 ⟨rfl, hi, hb, hk⟩; refine ⟨_, rfl, ?_⟩; have n0_ := Aside0.mk (KeepBut.blk hk (g' := gb283) (o := .cells #[.string (⟨#[]⟩ : ByteArray), .string (⟨#[]⟩ : ByteArray)] 25 (0, 0)) (lb BK283.out) NB283_284.out (by simp)); have n1_ := Aside0.mk (Kd.R_mono (Kd.R_keep (IsS54.apart (show IsS54 w _ gb284 l0 t291 t292 from by exact lI54 HI284.out) (by (with_reducible repeat (first | apply Kd.R_alloc | apply Kd.R_drewN | apply Kd.R_drew)); exact HO287.out) (by decide)) hk (fun _ h => h.2)) (fun _ h => h.1)); have n2_ := Aside0.mk (hb); have n3_ := Aside0.mk (hi); clear BK283 HO287 HB HI284; have BK283 := n0_; have HO287 := n1_; have HB := n2_; have HI284 := n3_; clear n0_ n1_ n2_ n3_; (try clear hb); (try clear hb2); (try clear hk); (try clear hi); have hnb43 := NB283_284.out; have hnc43 := NB284_283.out; have hcz44_0 : w42.cell? ⟨gb283, 0, none⟩ = some (.string (⟨#[]⟩ : ByteArray)) := (blk_cell BK283.out 0).trans rfl; have hcz44_1 : w42.cell? ⟨gb283, 1, none⟩ = some (.string (⟨#[]⟩ : ByteArray)) := (blk_cell BK283.out 1).trans rfl; have hfz44_0 := blk_frozen BK283.out 0; have hfz44_1 := blk_frozen BK283.out 1))
    refine bodyPost_ret (results_ct rfl _ _ gb283 25 #[.string t316, .string t317] (0, 0) _ rfl (by (with_reducible repeat (first | refine blk_drewN ?_ _ | refine blk_drew ?_ | refine blk_alloc ?_ _)); refine blk_put (cs := #[.string t316, .string (⟨#[]⟩ : ByteArray)]) ?_ 1 _ rfl; (with_reducible repeat (first | refine blk_drewN ?_ _ | refine blk_drew ?_ | refine blk_alloc ?_ _)); refine blk_put (cs := #[.string (⟨#[]⟩ : ByteArray), .string (⟨#[]⟩ : ByteArray)]) ?_ 0 _ rfl; exact lb BK283.out) Tryz.underlying25 rfl (by kernel_rfl)) rfl ?_
    exact ⟨_, lx, by (with_reducible repeat (first | apply Kd.R_alloc | apply Kd.R_drewN | apply Kd.R_drew)); exact Kd.R_mono (Kd.R_far (p := ⟨gb283, 1, none⟩) (Kd.R_far (p := ⟨gb283, 0, none⟩) (Kd.R_types HO287.out BK283.out (by decide)) (fun _ hk => hk.2) (.string t316)) (fun _ hk => hk.2) (.string t317)) (fun _ hk => trivial), by exact lB HB.out⟩

  rw [if_pos c20] at H
  have c20b0 : (t290 == 1) = true := beq_iff_eq.mpr c20
  have c20b1 : (t290 != 1) = false := bne_eq_false_iff_eq.mpr c20
  clear c20
  have H' := Aside0.mk H
  clear H
  go_enter Tryz.func18, Tryz.ntmps18
  go_wp2_with (first | ((with_reducible refine gate_dst (N := 2) rfl ?_); refine box_event ?hg (N := 2) ?hd (cs := #[.string (⟨#[]⟩ : ByteArray), .string (⟨#[]⟩ : ByteArray)]) (t := 25) ?hr ?_; (case hd => rfl); (case hg => rfl); (case hr => exact lr); intro gb283 hg w21 hbox hb; have n0_ := Aside0.mk (below_step (lB HB.out) hb); have n1_ := Aside0.mk (hbox); have n2_ := gw hg (lB HB.out); have n3_ := gw hg (lB HB.out); clear HB; have HB := n0_; have BK283 := n1_; have GW283 := n2_; have GE283 := n3_; clear n0_ n1_ n2_ n3_; clear hb hbox hg) | ((with_reducible refine gate_dst (N := 8) rfl ?_); refine box_event ?hg (N := 8) ?hd (cs := #[.slice A0 l0.length c0, .int .i64 0, .int .u64 0]) (t := 54) ?hr ?_; (case hd => rfl); (case hg => rfl); (case hr => exact lr); intro gb284 hg w22 hbox hb; have n0_ := Aside0.mk (blk_below (lb BK283.out) hb); have n1_ := Aside0.mk (below_step (lB HB.out) hb); have n2_ := gw hg (lB HB.out); have n3_ := gw hg (lB HB.out); have n4_ := na hg (lb BK283.out); have n5_ := nz hg (lb BK283.out); have n6_ := Aside0.mk ((show IsS54 w w22 gb284 l0 0 0 from ⟨_, _, hbox, (by rw [hg]; exact (below_size (lB HB.out)) : w.heap.size ≤ gb284), HR0.out⟩)); clear BK283 HB; have BK283 := n0_; have HB := n1_; have GW284 := n2_; have GE284 := n3_; have NB283_284 := n4_; have NB284_283 := n5_; have HI284 := n6_; clear n0_ n1_ n2_ n3_ n4_ n5_ n6_; clear hb hbox hg) | ((with_reducible refine gate_callee (f := 48) rfl ?_); refine goesL_ (some 10) rfl rfl Tryz.func48 (by kernel_rfl) rfl #[.pointer (some ⟨gb284, 0, none⟩), .int .i64 4, .int .i64 2] rfl lm ?_; (with_reducible refine (spec_l1Cur_sureWord.calls k gb284 l0 0 0 4 2 t285 t288 t289 w _ ?side1 ?side2 A2.out).mono ?_); (case side1 => exact lI54 HI284.out); (case side2 => exact lB HB.out); rintro e w23 ⟨v286, rfl, ho0, hi, hb, hk⟩; refine ⟨_, rfl, ?_⟩; have n0_ := Aside0.mk (KeepBut.blk hk (g' := gb283) (o := .cells #[.string (⟨#[]⟩ : ByteArray), .string (⟨#[]⟩ : ByteArray)] 25 (0, 0)) (lb BK283.out) NB283_284.out (by simp)); have n1_ := Aside0.mk (Kd.R_lower ho0 (below_size (lB HB.out))); have n2_ := Aside0.mk (hb); have n3_ := Aside0.mk (hi); clear BK283 HB HI284; have BK283 := n0_; have HO287 := n1_; have HB := n2_; have HI284 := n3_; clear n0_ n1_ n2_ n3_; (try clear hb); (try clear hb2); (try clear hk); (try clear hi); (try clear ho0)) | ((with_reducible refine gate_callee (f := 49) rfl ?_); refine goesL_ (some 12) rfl rfl Tryz.func49 (by kernel_rfl) rfl #[.pointer (some ⟨gb284, 0, none⟩), .int .i64 14] rfl lm ?_; (with_reducible refine (spec_l1Cur_pick.calls gb284 l0 t288 t289 14 t290 t291 t292 w _ ?side1 ?side2 A3.out).mono ?_); (case side1 => exact lI54 HI284.out); (case side2 => exact lB HB.out); rintro e w24 ⟨rfl, hi, hb, hk⟩; refine ⟨_, rfl, ?_⟩; have n0_ := Aside0.mk (KeepBut.blk hk (g' := gb283) (o := .cells #[.string (⟨#[]⟩ : ByteArray), .string (⟨#[]⟩ : ByteArray)] 25 (0, 0)) (lb BK283.out) NB283_284.out (by simp)); have n1_ := Aside0.mk (Kd.R_mono (Kd.R_keep (IsS54.apart (show IsS54 w _ gb284 l0 t288 t289 from by exact lI54 HI284.out) (by (with_reducible repeat (first | apply Kd.R_alloc | apply Kd.R_drewN | apply Kd.R_drew)); exact HO287.out) (by decide)) hk (fun _ h => h.2)) (fun _ h => h.1)); have n2_ := Aside0.mk (hb); have n3_ := Aside0.mk (hi); clear BK283 HO287 HB HI284; have BK283 := n0_; have HO287 := n1_; have HB := n2_; have HI284 := n3_; clear n0_ n1_ n2_ n3_; (try clear hb); (try clear hb2); (try clear hk); (try clear hi)))
  go_loopg [5] k (fun kq v5 w' => ∃ (x5_1 : List Int) (x285001_1 : Int) (x285002_1 : Int), Aside0 (spec_DrawConjugateByWord.l0 kq x5_1 l0 x285001_1 x285002_1 = some (r1, r2, r3)) ∧ Aside0 (kq ≤ k) ∧ Aside0 (Kd.R (Kd.int .i64) 3 w' w.heap.size (fun _ => True) v5 x5_1) ∧ Aside0 (w'.heap[gb283]? = some (.cells #[.string (⟨#[]⟩ : ByteArray), .string (⟨#[]⟩ : ByteArray)] 25 (0, 0))) ∧ Aside0 (IsS54 w w' gb284 l0 x285001_1 x285002_1) ∧ Aside0 (Below w.heap.size w w'))
  case atStart => exact ⟨(t285), (t291), (t292), H', ⟨Nat.le_refl _⟩, ⟨by (with_reducible repeat (first | apply Kd.R_alloc | apply Kd.R_drewN | apply Kd.R_drew)); exact HO287.out⟩, ⟨lb BK283.out⟩, ⟨by exact lI54 HI284.out⟩, ⟨by exact lB HB.out⟩⟩
  case round =>
   clear H'
   (try clear c4)
   (try clear c4b0)
   (try clear c4b1)
   (try clear c20)
   (try clear c20b0)
   (try clear c20b1)
   obtain ⟨x5_1, x285001_1, x285002_1, HA, HK1, HO_5, BK283, HI284, HB⟩ := hrel
   cases gk with
   | zero => exact absurd HA.out (by simp [spec_DrawConjugateByWord.l0])
   | succ k1 =>
     have H := HA.out
     clear HA
     simp only [spec_DrawConjugateByWord.l0] at H
     replace H := Option.bind_eq_some_iff.mp H
     obtain ⟨⟨t306, t307, t308⟩, A250, H⟩ := H
     replace H : (if (x5_1.length : Int) < (wrap64 (6 + t306)) then (if x5_1.length < 17592186044416 then (spec_DrawConjugateByWord.l0 k1 (x5_1 ++ [1]) l0 t307 t308) else (none)) else ((spec_l1Cur_pair.f k1 l0 t307 t308 3).bind fun bt312 => (some (bt312.1, bt312.2.1, x5_1)))) = some (r1, r2, r3) := H
     have A25 := Aside0.mk A250
     clear A250
     by_cases c26 : (x5_1.length : Int) < (wrap64 (6 + t306))
     · rw [if_pos c26] at H
       have c26b0 : decide ((x5_1.length : Int) < (wrap64 (6 + t306))) = true := decide_eq_true c26
       clear c26
       by_cases c27 : x5_1.length < 17592186044416
       · rw [if_pos c27] at H
         have LMc27 := Aside0.mk c27
         clear c27
         obtain ⟨y309, hy309⟩ : ∃ y_ : List Int, y_ = (x5_1 ++ [1]) := ⟨_, rfl⟩
         replace H : (spec_DrawConjugateByWord.l0 k1 y309 l0 t307 t308) = some (r1, r2, r3) := by first | (rw [hy309]; with_reducible exact H) | (have H2_ := (Option.bind_some _ _).symm.trans H; rw [hy309]; with_reducible exact H2_) | (have H2_ := (Option.bind_some _ _).symm.trans H; with_reducible exact H2_) | with_reducible exact H | (rw [hy309]; exact H) | exact H
         have Ny309 := Aside0.mk hy309
         clear hy309
         have H' := Aside0.mk H
         clear H
         obtain ⟨Ao28, co28, eo28⟩ := Kd.R_slice HO_5.out
         subst eo28
         go_wp2_with (first | ((with_reducible refine gate_callee (f := 49) rfl ?_); refine goesL_ (some 26) rfl rfl Tryz.func49 (by kernel_rfl) rfl #[.pointer (some ⟨gb284, 0, none⟩), .int .i64 2] rfl lm ?_; (with_reducible refine (spec_l1Cur_pick.calls gb284 l0 x285001_1 x285002_1 2 t306 t307 t308 w _ ?side1 ?side2 A25.out).mono ?_); (case side1 => exact lI54 HI284.out); (case side2 => exact lB HB.out); rintro e w29 ⟨rfl, hi, hb, hk⟩; refine ⟨_, rfl, ?_⟩; have n0_ := Aside0.mk (Kd.R_mono (Kd.R_keep (IsS54.apart (show IsS54 w _ gb284 l0 x285001_1 x285002_1 from by exact lI54 HI284.out) (by (with_reducible repeat (first | apply Kd.R_alloc | apply Kd.R_drewN | apply Kd.R_drew)); exact HO_5.out) (by decide)) hk (fun _ h => h.2)) (fun _ h => h.1)); have n1_ := Aside0.mk (KeepBut.blk hk (g' := gb283) (o := .cells #[.string (⟨#[]⟩ : ByteArray), .string (⟨#[]⟩ : ByteArray)] 25 (0, 0)) (lb BK283.out) NB283_284.out (by simp)); have n2_ := Aside0.mk (hb); have n3_ := Aside0.mk (hi); clear HO_5 BK283 HB HI284; have HO_5 := n0_; have BK283 := n1_; have HB := n2_; have HI284 := n3_; clear n0_ n1_ n2_ n3_; (try clear hb); (try clear hb2); (try clear hk); (try clear hi)) | ((with_reducible refine gate_builtin (b := .append) (xs := #[.tmp 29, .tmp 30]) rfl ?_); at_builtin; refine Kd.R_append (Kd.int .i64) (w0 := w) w.heap.size rfl (.tmp 29) (.tmp 30) 28 3 (.int .i64 0) 8 rfl Tryz.underlying28 info3 rfl (by decide) (by omega) (.slice Ao28 x5_1.length co28) x5_1 1 [.int .i64 1] (fun _ => True) (fun _ => False) rfl rfl ?aP (fun _ hk => hk.elim) ?aF ?aO ?aB ?aS ?aL ?_; (case aP => exact rfl); (case aB => exact (lB HB.out)); (case aF => exact (fun _ _ => trivial)); (case aO => exact (by (with_reducible repeat (first | apply Kd.R_alloc | apply Kd.R_drewN | apply Kd.R_drew)); exact HO_5.out)); (case aS => exact (below_size (lB HB.out))); (case aL => have := LMc27.out; omega); intro v310 w30 ho hb hg hat; rw [← Ny309.out] at ho; have n0_ := Aside0.mk (blk_grown (g := gb283) (o := .cells #[.string (⟨#[]⟩ : ByteArray), .string (⟨#[]⟩ : ByteArray)] 25 (0, 0)) (lb BK283.out) hg (Kd.R_ne HO_5.out BK283.out (by decide))); have n1_ := Aside0.mk (IsS54.grown (lI54 HI284.out) hg (IsS54.own_ne HI284.out HO_5.out (by decide))); have n2_ := Aside0.mk (hb); have n3_ := Aside0.mk (ho); clear BK283 HI284 HB HO_5; have BK283 := n0_; have HI284 := n1_; have HB := n2_; have HO311 := n3_; clear n0_ n1_ n2_ n3_; clear ho hb hg hat))
         go_roundg k1
         case measure => have := HK1.out; omega
         case rel => exact ⟨(y309), (t307), (t308), H', ⟨by have := HK1.out; omega⟩, ⟨by (with_reducible repeat (first | apply Kd.R_alloc | apply Kd.R_drewN | apply Kd.R_drew)); exact HO311.out⟩, ⟨lb BK283.out⟩, ⟨by exact lI54 HI284.out⟩, ⟨by exact lB HB.out⟩⟩
       · rw [if_neg c27] at H
         exact absurd H (by simp)
     · rw [if_neg c26] at H
       have c26b0 : decide ((x5_1.length : Int) < (wrap64 (6 + t306))) = false := decide_eq_false c26
       clear c26
       replace H := Option.bind_eq_some_iff.mp H
       obtain ⟨⟨t312, t313, t314, t315⟩, A310, H⟩ := H
       replace H : (some (t312, t313, x5_1)) = some (r1, r2, r3) := H
       have A31 := Aside0.mk A310
       clear A310
       simp only [Option.some.injEq, Prod.mk.injEq] at H
       obtain ⟨rfl, rfl, rfl⟩ := H
       obtain ⟨Ao32, co32, eo32⟩ := Kd.R_slice HO_5.out
       subst eo32
       go_wp2_with (first | ((with_reducible refine gate_callee (f := 49) rfl ?_); refine goesL_ (some 26) rfl rfl Tryz.func49 (by kernel_rfl) rfl #[.pointer (some ⟨gb284, 0, none⟩), .int .i64 2] rfl lm ?_; (with_reducible refine (spec_l1Cur_pick.calls gb284 l0 x285001_1 x285002_1 2 t306 t307 t308 w _ ?side1 ?side2 A25.out).mono ?_); (case side1 => exact lI54 HI284.out); (case side2 => exact lB HB.out); rintro e w33 ⟨rfl, hi, hb, hk⟩; refine ⟨_, rfl, ?_⟩; have n0_ := Aside0.mk (Kd.R_mono (Kd.R_keep (IsS54.apart (show IsS54 w _ gb284 l0 x285001_1 x285002_1 from by exact lI54 HI284.out) (by (with_reducible repeat (first | apply Kd.R_alloc | apply Kd.R_drewN | apply Kd.R_drew)); exact HO_5.out) (by decide)) hk (fun _ h => h.2)) (fun _ h => h.1)); have n1_ := Aside0.mk (KeepBut.blk hk (g' := gb283) (o := .cells #[.string (⟨#[]⟩ : ByteArray), .string (⟨#[]⟩ : ByteArray)] 25 (0, 0)) (lb BK283.out) NB283_284.out (by simp)); have n2_ := Aside0.mk (hb); have n3_ := Aside0.mk (hi); clear HO_5 BK283 HB HI284; have HO_5 := n0_; have BK283 := n1_; have HB := n2_; have HI284 := n3_; clear n0_ n1_ n2_ n3_; (try clear hb); (try clear hb2); (try clear hk); (try clear hi)) | ((with_reducible refine gate_callee (f := 25) rfl ?_); refine goesL_ (some 33) rfl rfl Tryz.func25 (by kernel_rfl) rfl #[.pointer (some ⟨gb284, 0, none⟩), .int .i64 3] rfl lm ?_; (with_reducible refine (spec_l1Cur_pair.calls k1 gb284 l0 t307 t308 3 t312 t313 t314 t315 w _ ?side1 ?side2 A31.out).mono ?_); (case side1 => exact lI54 HI284.out); (case side2 => exact lB HB.out); rintro e w34 ⟨rfl, hi, hb, hk⟩; refine ⟨_, rfl, ?_⟩; have n0_ := Aside0.mk (Kd.R_mono (Kd.R_keep (IsS54.apart (show IsS54 w _ gb284 l0 t307 t308 from by exact lI54 HI284.out) (by (with_reducible repeat (first | apply Kd.R_alloc | apply Kd.R_drewN | apply Kd.R_drew)); exact HO_5.out) (by decide)) hk (fun _ h => h.2)) (fun _ h => h.1)); have n1_ := Aside0.mk (KeepBut.blk hk (g' := gb283) (o := .cells #[.string (⟨#[]⟩ : ByteArray), .string (⟨#[]⟩ : ByteArray)] 25 (0, 0)) (lb BK283.out) NB283_284.out (by simp)); have n2_ := Aside0.mk (hb); have n3_ := Aside0.mk (hi); clear HO_5 BK283 HB HI284; have HO_5 := n0_; have BK283 := n1_; have HB := n2_; have HI284 := n3_; clear n0_ n1_ n2_ n3_; (try clear hb); (try clear hb2); (try clear hk); (try clear hi); have hnb35 := NB283_284.out; have hnc35 := NB284_283.out; have hcz36_0 : w34.cell? ⟨gb283, 0, none⟩ = some (.string (⟨#[]⟩ : ByteArray)) := (blk_cell BK283.out 0).trans rfl; have hcz36_1 : w34.cell? ⟨gb283, 1, none⟩ = some (.string (⟨#[]⟩ : ByteArray)) := (blk_cell BK283.out 1).trans rfl; have hfz36_0 := blk_frozen BK283.out 0; have hfz36_1 := blk_frozen BK283.out 1))
       refine bodyPost_ret (results_ct rfl _ _ gb283 25 #[.string t312, .string t313] (0, 0) _ rfl (by (with_reducible repeat (first | refine blk_drewN ?_ _ | refine blk_drew ?_ | refine blk_alloc ?_ _)); refine blk_put (cs := #[.string t312, .string (⟨#[]⟩ : ByteArray)]) ?_ 1 _ rfl; (with_reducible repeat (first | refine blk_drewN ?_ _ | refine blk_drew ?_ | refine blk_alloc ?_ _)); refine blk_put (cs := #[.string (⟨#[]⟩ : ByteArray), .string (⟨#[]⟩ : ByteArray)]) ?_ 0 _ rfl; exact lb BK283.out) Tryz.underlying25 rfl (by kernel_rfl)) rfl ?_
       exact ⟨_, lx, by (with_reducible repeat (first | apply Kd.R_alloc | apply Kd.R_drewN | apply Kd.R_drew)); exact Kd.R_mono (Kd.R_far (p := ⟨gb283, 1, none⟩) (Kd.R_far (p := ⟨gb283, 0, none⟩) (Kd.R_types HO_5.out BK283.out (by decide)) (fun _ hk => hk.2) (.string t312)) (fun _ hk => hk.2) (.string t313)) (fun _ hk => trivial), by exact lB HB.out⟩
def spec_DrawLeastConjugate.f (k : Nat) (l0 : List Int) : Option (ByteArray × ByteArray × Int) := (spec_l1Cur_pair.f k l0 0 0 4).bind fun bt322 => ((spec_l1Cur_among.f l0 bt322.2.2.1 bt322.2.2.2 (([0, 1, 2, 2, 3, 5, (-1)] : List Int))).bind fun bt329 => (some (bt322.1, bt322.2.1, bt329.1)))
theorem spec_DrawLeastConjugate.mono : ∀ a0 k, LeO (spec_DrawLeastConjugate.f k a0) (spec_DrawLeastConjugate.f (k + 1) a0) := by
  intro a0 k
  unfold spec_DrawLeastConjugate.f
  repeat' first
      | (with_reducible exact spec_l1Cur_pair.mono _ _ _ _ _)
      | (with_reducible exact LeO.refl _)
      | (with_reducible exact LeO.none _)
      | (with_reducible refine LeO.ite ?_ ?_)
      | (with_reducible refine LeO.bind ?_ (fun _ => ?_))
      | exact spec_l1Cur_pair.mono _ _ _ _ _
      | exact LeO.none _
      | refine LeO.ite ?_ ?_
      | refine LeO.bind ?_ (fun _ => ?_)
set_option maxHeartbeats 8000000 in
set_option maxRecDepth 100000 in
theorem spec_DrawLeastConjugate.calls (k : Nat) (A0 : Option Addr) (c0 : Nat) (l0 : List Int) (r1 : ByteArray) (r2 : ByteArray) (r3 : Int) (w : World) (hr0 : Kd.C (Kd.int .u8) w A0 l0.length l0) (hc0 : l0.length ≤ c0) (h : spec_DrawLeastConjugate.f k l0 = some (r1, r2, r3)) :
    Calls Tryz.prog 21 #[.slice A0 l0.length c0] w fun e w' => e = .returned (.tuple #[.agg #[.string r1, .string r2], .int .i64 r3]) ∧ Below w.heap.size w w' := by
  have hu25 := Tryz.underlying25
  have hu54 := Tryz.underlying54
  have HR0 := Aside0.mk hr0
  have HC0 := Aside0.mk hc0
  clear hr0 hc0
  have HB := Aside0.mk (Below.refl w.heap.size w)
  have H : ((spec_l1Cur_pair.f k l0 0 0 4).bind fun bt322 => ((spec_l1Cur_among.f l0 bt322.2.2.1 bt322.2.2.2 (([0, 1, 2, 2, 3, 5, (-1)] : List Int))).bind fun bt329 => (some (bt322.1, bt322.2.1, bt329.1)))) = some (r1, r2, r3) := h
  clear h
  replace H := Option.bind_eq_some_iff.mp H
  obtain ⟨⟨t322, t323, t324, t325⟩, A20, H⟩ := H
  replace H : ((spec_l1Cur_among.f l0 t324 t325 (([0, 1, 2, 2, 3, 5, (-1)] : List Int))).bind fun bt329 => (some (t322, t323, bt329.1))) = some (r1, r2, r3) := H
  have A2 := Aside0.mk A20
  clear A20
  obtain ⟨y326, hy326⟩ : ∃ y_ : List Int, y_ = (([0, 1, 2, 2, 3, 5, (-1)] : List Int)) := ⟨_, rfl⟩
  replace H : ((spec_l1Cur_among.f l0 t324 t325 y326).bind fun bt329 => (some (t322, t323, bt329.1))) = some (r1, r2, r3) := by first | (rw [hy326]; with_reducible exact H) | (have H2_ := (Option.bind_some _ _).symm.trans H; rw [hy326]; with_reducible exact H2_) | (have H2_ := (Option.bind_some _ _).symm.trans H; with_reducible exact H2_) | with_reducible exact H | (rw [hy326]; exact H) | exact H
  have Ny326 := Aside0.mk hy326
  clear hy326
  replace H := Option.bind_eq_some_iff.mp H
  obtain ⟨⟨t329, t330, t331⟩, A30, H⟩ := H
  replace H : (some (t322, t323, t329)) = some (r1, r2, r3) := H
  have A3 := Aside0.mk A30
  clear A30
  simp only [Option.some.injEq, Prod.mk.injEq] at H
  obtain ⟨rfl, rfl, rfl⟩ := H
  go_enter Tryz.func21, Tryz.ntmps21
  go_wp2_with (first | ((with_reducible refine gate_dst (N := 2) rfl ?_); refine box_event ?hg (N := 2) ?hd (cs := #[.string (⟨#[]⟩ : ByteArray), .string (⟨#[]⟩ : ByteArray)]) (t := 25) ?hr ?_; (case hd => rfl); (case hg => rfl); (case hr => exact lr); intro gb320 hg w4 hbox hb; have n0_ := Aside0.mk (below_step (lB HB.out) hb); have n1_ := Aside0.mk (hbox); have n2_ := gw hg (lB HB.out); have n3_ := gw hg (lB HB.out); clear HB; have HB := n0_; have BK320 := n1_; have GW320 := n2_; have GE320 := n3_; clear n0_ n1_ n2_ n3_; clear hb hbox hg) | ((with_reducible refine gate_dst (N := 7) rfl ?_); refine box_event ?hg (N := 7) ?hd (cs := #[.slice A0 l0.length c0, .int .i64 0, .int .u64 0]) (t := 54) ?hr ?_; (case hd => rfl); (case hg => rfl); (case hr => exact lr); intro gb321 hg w5 hbox hb; have n0_ := Aside0.mk (blk_below (lb BK320.out) hb); have n1_ := Aside0.mk (below_step (lB HB.out) hb); have n2_ := gw hg (lB HB.out); have n3_ := gw hg (lB HB.out); have n4_ := na hg (lb BK320.out); have n5_ := nz hg (lb BK320.out); have n6_ := Aside0.mk ((show IsS54 w w5 gb321 l0 0 0 from ⟨_, _, hbox, (by rw [hg]; exact (below_size (lB HB.out)) : w.heap.size ≤ gb321), HR0.out⟩)); clear BK320 HB; have BK320 := n0_; have HB := n1_; have GW321 := n2_; have GE321 := n3_; have NB320_321 := n4_; have NB321_320 := n5_; have HI321 := n6_; clear n0_ n1_ n2_ n3_ n4_ n5_ n6_; clear hb hbox hg) | ((with_reducible refine gate_callee (f := 25) rfl ?_); refine goesL_ (some 9) rfl rfl Tryz.func25 (by kernel_rfl) rfl #[.pointer (some ⟨gb321, 0, none⟩), .int .i64 4] rfl lm ?_; (with_reducible refine (spec_l1Cur_pair.calls k gb321 l0 0 0 4 t322 t323 t324 t325 w _ ?side1 ?side2 A2.out).mono ?_); (case side1 => exact lI54 HI321.out); (case side2 => exact lB HB.out); rintro e w6 ⟨rfl, hi, hb, hk⟩; refine ⟨_, rfl, ?_⟩; have n0_ := Aside0.mk (KeepBut.blk hk (g' := gb320) (o := .cells #[.string (⟨#[]⟩ : ByteArray), .string (⟨#[]⟩ : ByteArray)] 25 (0, 0)) (lb BK320.out) NB320_321.out (by simp)); have n1_ := Aside0.mk (hb); have n2_ := Aside0.mk (hi); clear BK320 HB HI321; have BK320 := n0_; have HB := n1_; have HI321 := n2_; clear n0_ n1_ n2_; (try clear hb); (try clear hb2); (try clear hk); (try clear hi)) | ((with_reducible refine gate_dst (N := 11) rfl ?_); refine Kd.R_lit (Kd.int .i64) _ 3 ?hg (N := 11) ?hd (xs := ([0, 1, 2, 2, 3, 5, (-1)] : List Int)) (inner := [.int .i64 0, .int .i64 1, .int .i64 2, .int .i64 2, .int .i64 3, .int .i64 5, .int .i64 (-1)]) (ok := fun _ => True) (okp := fun _ => True) ?hr ?hp (fun _ hk => hk) trivial (Below.refl _ _) (Nat.le_refl _) (by simp) ?_; (case hd => rfl); (case hg => rfl); (case hr => exact lr); (case hp => exact (Reps.one (show Kd.M (Kd.int .i64) _ _ _ 0 [.int .i64 0] from rfl) (Reps.one (show Kd.M (Kd.int .i64) _ _ _ 1 [.int .i64 1] from rfl) (Reps.one (show Kd.M (Kd.int .i64) _ _ _ 2 [.int .i64 2] from rfl) (Reps.one (show Kd.M (Kd.int .i64) _ _ _ 2 [.int .i64 2] from rfl) (Reps.one (show Kd.M (Kd.int .i64) _ _ _ 3 [.int .i64 3] from rfl) (Reps.one (show Kd.M (Kd.int .i64) _ _ _ 5 [.int .i64 5] from rfl) (Reps.one (show Kd.M (Kd.int .i64) _ _ _ (-1) [.int .i64 (-1)] from rfl) (Reps.none _ _))))))))); intro v327 w7 ho8 hb hg_ hnew_; clear hg_ hnew_; (first | rw [← Ny326.out] at ho8 | (simp only [Int.reduceToNat] at ho8; rw [← Ny326.out] at ho8)); have n0_ := Aside0.mk (Kd.R_lower ho8 (below_size (lB HB.out))); have n1_ := Aside0.mk (blk_below (lb BK320.out) hb); have n2_ := Aside0.mk (IsS54.below (lI54 HI321.out) hb); have n3_ := Aside0.mk (below_step (lB HB.out) hb); clear BK320 HI321 HB; have HO328 := n0_; have BK320 := n1_; have HI321 := n2_; have HB := n3_; clear n0_ n1_ n2_ n3_; clear hb ho8; obtain ⟨Ao9, co9, eo9⟩ := Kd.R_slice HO328.out; subst eo9) | ((with_reducible refine gate_callee (f := 26) rfl ?_); refine goesL_ (some 12) rfl rfl Tryz.func26 (by kernel_rfl) rfl #[.pointer (some ⟨gb321, 0, none⟩), .slice Ao9 y326.length co9] rfl lm ?_; (with_reducible refine (spec_l1Cur_among.calls gb321 l0 t324 t325 _ _ y326 t329 t330 t331 w _ ?side1 ?side2 ?side3 ?side4 ?side5 A3.out).mono ?_); (case side1 => exact lI54 HI321.out); (case side2 => exact lB HB.out); (case side3 => repeat (first | exact (Kd.R_reads' HO328.out).2.2 | (with_reducible refine Kd.C_alloc ?_ _) | (with_reducible refine Kd.C_drewN ?_ _) | (with_reducible refine Kd.C_drew ?_))); (case side4 => exact (Kd.R_reads' HO328.out).2.1); (case side5 => exact far_slice (IsS54.own_ne HI321.out HO328.out (by decide))); rintro e w10 ⟨rfl, hi, hb, hk⟩; refine ⟨_, rfl, ?_⟩; have n0_ := Aside0.mk (KeepBut.blk hk (g' := gb320) (o := .cells #[.string (⟨#[]⟩ : ByteArray), .string (⟨#[]⟩ : ByteArray)] 25 (0, 0)) (lb BK320.out) NB320_321.out (by simp)); have n1_ := Aside0.mk (Kd.R_mono (Kd.R_keep (IsS54.apart (show IsS54 w _ gb321 l0 t324 t325 from by exact lI54 HI321.out) (by (with_reducible repeat (first | apply Kd.R_alloc | apply Kd.R_drewN | apply Kd.R_drew)); exact HO328.out) (by decide)) hk (fun _ h => h.2)) (fun _ h => h.1)); have n2_ := Aside0.mk (hb); have n3_ := Aside0.mk (hi); clear BK320 HO328 HB HI321; have BK320 := n0_; have HO328 := n1_; have HB := n2_; have HI321 := n3_; clear n0_ n1_ n2_ n3_; (try clear hb); (try clear hb2); (try clear hk); (try clear hi); have hnb11 := NB320_321.out; have hnc11 := NB321_320.out; have hcz12_0 : w10.cell? ⟨gb320, 0, none⟩ = some (.string (⟨#[]⟩ : ByteArray)) := (blk_cell BK320.out 0).trans rfl; have hcz12_1 : w10.cell? ⟨gb320, 1, none⟩ = some (.string (⟨#[]⟩ : ByteArray)) := (blk_cell BK320.out 1).trans rfl; have hfz12_0 := blk_frozen BK320.out 0; have hfz12_1 := blk_frozen BK320.out 1))
  refine bodyPost_ret (results_ct rfl _ _ gb320 25 #[.string t322, .string t323] (0, 0) _ rfl (by (with_reducible repeat (first | refine blk_drewN ?_ _ | refine blk_drew ?_ | refine blk_alloc ?_ _)); refine blk_put (cs := #[.string t322, .string (⟨#[]⟩ : ByteArray)]) ?_ 1 _ rfl; (with_reducible repeat (first | refine blk_drewN ?_ _ | refine blk_drew ?_ | refine blk_alloc ?_ _)); refine blk_put (cs := #[.string (⟨#[]⟩ : ByteArray), .string (⟨#[]⟩ : ByteArray)]) ?_ 0 _ rfl; exact lb BK320.out) Tryz.underlying25 rfl (by kernel_rfl)) rfl ?_
  exact ⟨lx, by exact lB HB.out⟩
end Go.Proofs.YtijnadjgmmednaaGreat.PA
namespace Go.Proofs.YtijnadjgmmednaaGreat.PA
open Go.RowKit Go.Proofs.YtijnadjgmmednaaGreatW.PrintWords Go.Proofs.YtijnadjgmmednaaGreatW.PrintLast Go.Proofs.YtijnadjgmmednaaGreatW.PrintMore
attribute [local go_sem] max2_int min2_int max_two min_two max_three min_three max_four min_four
attribute [local go_sem high] eqA25
mutual
def laws_FnConjugatesFound.j0 : Nat → List Int → Int → List Int → Bool → Bool → ByteArray → ByteArray → ByteArray → ByteArray → Option (Bool)
  | 0, _, _, _, _, _, _, _, _, _ => none
  | k + 1, x1, x7, x8, x9, x134, x339000, x339001, x340000, x340001 => if x134 = true then (some false) else (if x9 = true then ((impl_PairOfWord.f x8).bind fun bt353 => ((impl_ConjugatePair.f x339000 x339001 bt353.1 bt353.2.1).bind fun bt357 => ((impl_SumsOfPair.f x339000 x339001).bind fun bt361 => ((impl_SumsOfPair.f x340000 x340001).bind fun bt364 => (if (x8.length : Int) > x7 then (some false) else (if bt353.2.2 = true then (if bt357.2.2 = true then ((laws_nReduced.f x340000 x340001).bind fun bt367 => (if (!(bt357.1.toList == bt367.1.toList) || (!(bt357.2.1.toList == bt367.2.toList))) = true then (some false) else (if bt361.2.2 = true then (if bt364.2.2 = true then (if bt361.1 = bt364.1 then (if bt361.2.1 = bt364.2.1 then (laws_FnConjugatesFound.j1 k x1) else (some false)) else (some false)) else (some false)) else (some false)))) else (some false)) else (some false))))))) else (laws_FnConjugatesFound.j1 k x1))
def laws_FnConjugatesFound.j1 : Nat → List Int → Option (Bool)
  | 0, _ => none
  | k + 1, x1 => (spec_DrawConjugatePair.f k x1).bind fun bt369 => ((impl_ConjugatePair.f bt369.1 bt369.2.1 bt369.2.2.1 bt369.2.2.2).bind fun bt375 => ((spec_ConjugatePair.f bt369.1 bt369.2.1 bt369.2.2.1 bt369.2.2.2).bind fun bt379 => (if (bt375.2.2 != bt379.2.2) = true then (laws_FnConjugatesFound.j2 k x1 bt375.2.2 true bt369.1 bt369.2.1 bt369.2.2.1 bt369.2.2.2 bt375.1 bt375.2.1) else (laws_FnConjugatesFound.j2 k x1 bt375.2.2 (!(bt375.1.toList == bt379.1.toList) || (!(bt375.2.1.toList == bt379.2.1.toList))) bt369.1 bt369.2.1 bt369.2.2.1 bt369.2.2.2 bt375.1 bt375.2.1))))
def laws_FnConjugatesFound.j2 : Nat → List Int → Bool → Bool → ByteArray → ByteArray → ByteArray → ByteArray → ByteArray → ByteArray → Option (Bool)
  | 0, _, _, _, _, _, _, _, _, _ => none
  | k + 1, x1, x29, x219, x374000, x374001, x375000, x375001, x379000, x379001 => if x219 = true then (some false) else (if x29 = true then ((impl_InversePair.f x375000 x375001).bind fun bt383 => ((impl_ConjugatePair.f x379000 x379001 bt383.1 bt383.2.1).bind fun bt387 => ((impl_SumsOfPair.f x374000 x374001).bind fun bt391 => ((impl_SumsOfPair.f x379000 x379001).bind fun bt394 => (if bt383.2.2 = true then (if bt387.2.2 = true then ((laws_nReduced.f x374000 x374001).bind fun bt397 => (if (!(bt387.1.toList == bt397.1.toList) || (!(bt387.2.1.toList == bt397.2.toList))) = true then (some false) else (if bt391.2.2 = true then (if bt394.2.2 = true then (if bt391.1 = bt394.1 then (if bt391.2.1 = bt394.2.1 then (laws_FnConjugatesFound.j3 k x1) else (some false)) else (some false)) else (some false)) else (some false)))) else (some false)) else (some false)))))) else (laws_FnConjugatesFound.j3 k x1))
def laws_FnConjugatesFound.j3 : Nat → List Int → Option (Bool)
  | 0, _ => none
  | k + 1, x1 => (spec_DrawConjugateByWord.f k x1).bind fun bt399 => ((impl_ConjugateByWord.f bt399.1 bt399.2.1 bt399.2.2).bind fun bt405 => ((spec_ConjugateByWord.f bt399.1 bt399.2.1 bt399.2.2).bind fun bt409 => (if (bt405.2.2 != bt409.2.2) = true then (laws_FnConjugatesFound.j4 k x1 bt399.2.2 bt405.2.2 true bt399.1 bt399.2.1 bt405.1 bt405.2.1) else (laws_FnConjugatesFound.j4 k x1 bt399.2.2 bt405.2.2 (!(bt405.1.toList == bt409.1.toList) || (!(bt405.2.1.toList == bt409.2.1.toList))) bt399.1 bt399.2.1 bt405.1 bt405.2.1))))
def laws_FnConjugatesFound.j4 : Nat → List Int → List Int → Bool → Bool → ByteArray → ByteArray → ByteArray → ByteArray → Option (Bool)
  | 0, _, _, _, _, _, _, _, _ => none
  | k + 1, x1, x43, x45, x298, x405000, x405001, x409000, x409001 => if x298 = true then (some false) else (if x45 = true then ((impl_PairOfWord.f x43).bind fun bt413 => ((impl_ConjugatePair.f x405000 x405001 bt413.1 bt413.2.1).bind fun bt417 => (if bt413.2.2 = true then (if bt417.2.2 = true then (if (!(bt417.1.toList == x409000.toList) || (!(bt417.2.1.toList == x409001.toList))) = true then (some false) else (laws_FnConjugatesFound.j5 k x1)) else (some false)) else (some false)))) else (laws_FnConjugatesFound.j5 k x1))
def laws_FnConjugatesFound.j5 : Nat → List Int → Option (Bool)
  | 0, _ => none
  | k + 1, x1 => (spec_DrawLeastConjugate.f k x1).bind fun bt421 => ((impl_LeastConjugate.f bt421.1 bt421.2.1 bt421.2.2).bind fun bt425 => ((spec_LeastConjugate.f bt421.1 bt421.2.1 bt421.2.2).bind fun bt429 => (if (bt425.2.2 != bt429.2.2) = true then (laws_FnConjugatesFound.j6 k bt421.2.2 bt425.2.2 true bt421.1 bt421.2.1 bt425.1 bt425.2.1) else (laws_FnConjugatesFound.j6 k bt421.2.2 bt425.2.2 (!(bt425.1.toList == bt429.1.toList) || (!(bt425.2.1.toList == bt429.2.1.toList))) bt421.1 bt421.2.1 bt425.1 bt425.2.1))))
def laws_FnConjugatesFound.j6 : Nat → Int → Bool → Bool → ByteArray → ByteArray → ByteArray → ByteArray → Option (Bool)
  | 0, _, _, _, _, _, _, _ => none
  | k + 1, x53, x55, x346, x425000, x425001, x429000, x429001 => if x346 = true then (some false) else (if x55 = true then ((impl_AreConjugateWithin.f x425000 x425001 x429000 x429001 x53).bind fun bt433 => ((impl_CaretsOf.f x429000).bind fun bt435 => ((laws_nReduced.f x425000 x425001).bind fun bt437 => ((impl_CaretsOf.f bt437.1).bind fun bt439 => (if bt433.2 = true then (if bt433.1 = true then (if bt435.2 = true then (if bt439.2 = true then (some (decide (bt435.1 ≤ bt439.1))) else (some false)) else (some false)) else (some false)) else (some false)))))) else (some true))
end
def laws_FnConjugatesFound.f (k : Nat) (l0 : List Int) (l1 : List Int) : Option (Bool) := (laws_big.f l0 l1).bind fun t332 => (if t332 = true then (some true) else ((spec_DrawFindConjugator.f k l0).bind fun bt333 => ((impl_FindConjugator.f bt333.1 bt333.2.1 bt333.2.2.1 bt333.2.2.2.1 bt333.2.2.2.2).bind fun bt340 => ((spec_FindConjugator.f bt333.1 bt333.2.1 bt333.2.2.1 bt333.2.2.2.1 bt333.2.2.2.2).bind fun bt344 => ((impl_AreConjugateWithin.f bt333.1 bt333.2.1 bt333.2.2.1 bt333.2.2.2.1 bt333.2.2.2.2).bind fun bt348 => ((spec_AreConjugateWithin.f bt333.1 bt333.2.1 bt333.2.2.1 bt333.2.2.2.1 bt333.2.2.2.2).bind fun bt350 => (if (bt340.2 != bt344.2) = true then (laws_FnConjugatesFound.j0 k l1 bt333.2.2.2.2 bt340.1 bt340.2 true bt333.1 bt333.2.1 bt333.2.2.1 bt333.2.2.2.1) else ((laws_nSame.f k bt340.1 bt344.1).bind fun t352 => (if t352 = true then (if (bt348.2 != bt350.2) = true then (laws_FnConjugatesFound.j0 k l1 bt333.2.2.2.2 bt340.1 bt340.2 true bt333.1 bt333.2.1 bt333.2.2.1 bt333.2.2.2.1) else (if (bt348.1 != bt350.1) = true then (laws_FnConjugatesFound.j0 k l1 bt333.2.2.2.2 bt340.1 bt340.2 true bt333.1 bt333.2.1 bt333.2.2.1 bt333.2.2.2.1) else (if bt348.2 = true then (if (bt348.1 != bt340.2) = true then (laws_FnConjugatesFound.j0 k l1 bt333.2.2.2.2 bt340.1 bt340.2 true bt333.1 bt333.2.1 bt333.2.2.1 bt333.2.2.2.1) else (laws_FnConjugatesFound.j0 k l1 bt333.2.2.2.2 bt340.1 bt340.2 false bt333.1 bt333.2.1 bt333.2.2.1 bt333.2.2.2.1)) else (laws_FnConjugatesFound.j0 k l1 bt333.2.2.2.2 bt340.1 bt340.2 bt340.2 bt333.1 bt333.2.1 bt333.2.2.1 bt333.2.2.2.1)))) else (laws_FnConjugatesFound.j0 k l1 bt333.2.2.2.2 bt340.1 bt340.2 true bt333.1 bt333.2.1 bt333.2.2.1 bt333.2.2.2.1))))))))))
theorem laws_FnConjugatesFound.mono_l : ∀ k, (∀ y0 y1 y2 y3 y4 y5 y6 y7 y8, LeO (laws_FnConjugatesFound.j0 k y0 y1 y2 y3 y4 y5 y6 y7 y8) (laws_FnConjugatesFound.j0 (k + 1) y0 y1 y2 y3 y4 y5 y6 y7 y8)) ∧ (∀ y0, LeO (laws_FnConjugatesFound.j1 k y0) (laws_FnConjugatesFound.j1 (k + 1) y0)) ∧ (∀ y0 y1 y2 y3 y4 y5 y6 y7 y8, LeO (laws_FnConjugatesFound.j2 k y0 y1 y2 y3 y4 y5 y6 y7 y8) (laws_FnConjugatesFound.j2 (k + 1) y0 y1 y2 y3 y4 y5 y6 y7 y8)) ∧ (∀ y0, LeO (laws_FnConjugatesFound.j3 k y0) (laws_FnConjugatesFound.j3 (k + 1) y0)) ∧ (∀ y0 y1 y2 y3 y4 y5 y6 y7, LeO (laws_FnConjugatesFound.j4 k y0 y1 y2 y3 y4 y5 y6 y7) (laws_FnConjugatesFound.j4 (k + 1) y0 y1 y2 y3 y4 y5 y6 y7)) ∧ (∀ y0, LeO (laws_FnConjugatesFound.j5 k y0) (laws_FnConjugatesFound.j5 (k + 1) y0)) ∧ (∀ y0 y1 y2 y3 y4 y5 y6, LeO (laws_FnConjugatesFound.j6 k y0 y1 y2 y3 y4 y5 y6) (laws_FnConjugatesFound.j6 (k + 1) y0 y1 y2 y3 y4 y5 y6))
  | 0 => ⟨fun _ _ _ _ _ _ _ _ _ r h => by simp [laws_FnConjugatesFound.j0] at h, fun _ r h => by simp [laws_FnConjugatesFound.j1] at h, fun _ _ _ _ _ _ _ _ _ r h => by simp [laws_FnConjugatesFound.j2] at h, fun _ r h => by simp [laws_FnConjugatesFound.j3] at h, fun _ _ _ _ _ _ _ _ r h => by simp [laws_FnConjugatesFound.j4] at h, fun _ r h => by simp [laws_FnConjugatesFound.j5] at h, fun _ _ _ _ _ _ _ r h => by simp [laws_FnConjugatesFound.j6] at h⟩
  | k + 1 => by
    obtain ⟨ih0, ih1, ih2, ih3, ih4, ih5, ih6⟩ := laws_FnConjugatesFound.mono_l k
    refine ⟨?_, ?_, ?_, ?_, ?_, ?_, ?_⟩
    · intro y0 y1 y2 y3 y4 y5 y6 y7 y8
      unfold laws_FnConjugatesFound.j0
      repeat' first
      | (with_reducible exact ih0 _ _ _ _ _ _ _ _ _)
      | (with_reducible exact ih1 _)
      | (with_reducible exact ih2 _ _ _ _ _ _ _ _ _)
      | (with_reducible exact ih3 _)
      | (with_reducible exact ih4 _ _ _ _ _ _ _ _)
      | (with_reducible exact ih5 _)
      | (with_reducible exact ih6 _ _ _ _ _ _ _)
      | (with_reducible exact laws_nSame.mono _ _ _)
      | (with_reducible exact spec_DrawConjugateByWord.mono _ _)
      | (with_reducible exact spec_DrawConjugatePair.mono _ _)
      | (with_reducible exact spec_DrawFindConjugator.mono _ _)
      | (with_reducible exact spec_DrawLeastConjugate.mono _ _)
      | (with_reducible exact LeO.refl _)
      | (with_reducible exact LeO.none _)
      | (with_reducible refine LeO.ite ?_ ?_)
      | (with_reducible refine LeO.bind ?_ (fun _ => ?_))
      | exact ih0 _ _ _ _ _ _ _ _ _
      | exact ih1 _
      | exact ih2 _ _ _ _ _ _ _ _ _
      | exact ih3 _
      | exact ih4 _ _ _ _ _ _ _ _
      | exact ih5 _
      | exact ih6 _ _ _ _ _ _ _
      | exact laws_nSame.mono _ _ _
      | exact spec_DrawConjugateByWord.mono _ _
      | exact spec_DrawConjugatePair.mono _ _
      | exact spec_DrawFindConjugator.mono _ _
      | exact spec_DrawLeastConjugate.mono _ _
      | exact LeO.none _
      | refine LeO.ite ?_ ?_
      | refine LeO.bind ?_ (fun _ => ?_)
    · intro y0
      unfold laws_FnConjugatesFound.j1
      repeat' first
      | (with_reducible exact ih0 _ _ _ _ _ _ _ _ _)
      | (with_reducible exact ih1 _)
      | (with_reducible exact ih2 _ _ _ _ _ _ _ _ _)
      | (with_reducible exact ih3 _)
      | (with_reducible exact ih4 _ _ _ _ _ _ _ _)
      | (with_reducible exact ih5 _)
      | (with_reducible exact ih6 _ _ _ _ _ _ _)
      | (with_reducible exact laws_nSame.mono _ _ _)
      | (with_reducible exact spec_DrawConjugateByWord.mono _ _)
      | (with_reducible exact spec_DrawConjugatePair.mono _ _)
      | (with_reducible exact spec_DrawFindConjugator.mono _ _)
      | (with_reducible exact spec_DrawLeastConjugate.mono _ _)
      | (with_reducible exact LeO.refl _)
      | (with_reducible exact LeO.none _)
      | (with_reducible refine LeO.ite ?_ ?_)
      | (with_reducible refine LeO.bind ?_ (fun _ => ?_))
      | exact ih0 _ _ _ _ _ _ _ _ _
      | exact ih1 _
      | exact ih2 _ _ _ _ _ _ _ _ _
      | exact ih3 _
      | exact ih4 _ _ _ _ _ _ _ _
      | exact ih5 _
      | exact ih6 _ _ _ _ _ _ _
      | exact laws_nSame.mono _ _ _
      | exact spec_DrawConjugateByWord.mono _ _
      | exact spec_DrawConjugatePair.mono _ _
      | exact spec_DrawFindConjugator.mono _ _
      | exact spec_DrawLeastConjugate.mono _ _
      | exact LeO.none _
      | refine LeO.ite ?_ ?_
      | refine LeO.bind ?_ (fun _ => ?_)
    · intro y0 y1 y2 y3 y4 y5 y6 y7 y8
      unfold laws_FnConjugatesFound.j2
      repeat' first
      | (with_reducible exact ih0 _ _ _ _ _ _ _ _ _)
      | (with_reducible exact ih1 _)
      | (with_reducible exact ih2 _ _ _ _ _ _ _ _ _)
      | (with_reducible exact ih3 _)
      | (with_reducible exact ih4 _ _ _ _ _ _ _ _)
      | (with_reducible exact ih5 _)
      | (with_reducible exact ih6 _ _ _ _ _ _ _)
      | (with_reducible exact laws_nSame.mono _ _ _)
      | (with_reducible exact spec_DrawConjugateByWord.mono _ _)
      | (with_reducible exact spec_DrawConjugatePair.mono _ _)
      | (with_reducible exact spec_DrawFindConjugator.mono _ _)
      | (with_reducible exact spec_DrawLeastConjugate.mono _ _)
      | (with_reducible exact LeO.refl _)
      | (with_reducible exact LeO.none _)
      | (with_reducible refine LeO.ite ?_ ?_)
      | (with_reducible refine LeO.bind ?_ (fun _ => ?_))
      | exact ih0 _ _ _ _ _ _ _ _ _
      | exact ih1 _
      | exact ih2 _ _ _ _ _ _ _ _ _
      | exact ih3 _
      | exact ih4 _ _ _ _ _ _ _ _
      | exact ih5 _
      | exact ih6 _ _ _ _ _ _ _
      | exact laws_nSame.mono _ _ _
      | exact spec_DrawConjugateByWord.mono _ _
      | exact spec_DrawConjugatePair.mono _ _
      | exact spec_DrawFindConjugator.mono _ _
      | exact spec_DrawLeastConjugate.mono _ _
      | exact LeO.none _
      | refine LeO.ite ?_ ?_
      | refine LeO.bind ?_ (fun _ => ?_)
    · intro y0
      unfold laws_FnConjugatesFound.j3
      repeat' first
      | (with_reducible exact ih0 _ _ _ _ _ _ _ _ _)
      | (with_reducible exact ih1 _)
      | (with_reducible exact ih2 _ _ _ _ _ _ _ _ _)
      | (with_reducible exact ih3 _)
      | (with_reducible exact ih4 _ _ _ _ _ _ _ _)
      | (with_reducible exact ih5 _)
      | (with_reducible exact ih6 _ _ _ _ _ _ _)
      | (with_reducible exact laws_nSame.mono _ _ _)
      | (with_reducible exact spec_DrawConjugateByWord.mono _ _)
      | (with_reducible exact spec_DrawConjugatePair.mono _ _)
      | (with_reducible exact spec_DrawFindConjugator.mono _ _)
      | (with_reducible exact spec_DrawLeastConjugate.mono _ _)
      | (with_reducible exact LeO.refl _)
      | (with_reducible exact LeO.none _)
      | (with_reducible refine LeO.ite ?_ ?_)
      | (with_reducible refine LeO.bind ?_ (fun _ => ?_))
      | exact ih0 _ _ _ _ _ _ _ _ _
      | exact ih1 _
      | exact ih2 _ _ _ _ _ _ _ _ _
      | exact ih3 _
      | exact ih4 _ _ _ _ _ _ _ _
      | exact ih5 _
      | exact ih6 _ _ _ _ _ _ _
      | exact laws_nSame.mono _ _ _
      | exact spec_DrawConjugateByWord.mono _ _
      | exact spec_DrawConjugatePair.mono _ _
      | exact spec_DrawFindConjugator.mono _ _
      | exact spec_DrawLeastConjugate.mono _ _
      | exact LeO.none _
      | refine LeO.ite ?_ ?_
      | refine LeO.bind ?_ (fun _ => ?_)
    · intro y0 y1 y2 y3 y4 y5 y6 y7
      unfold laws_FnConjugatesFound.j4
      repeat' first
      | (with_reducible exact ih0 _ _ _ _ _ _ _ _ _)
      | (with_reducible exact ih1 _)
      | (with_reducible exact ih2 _ _ _ _ _ _ _ _ _)
      | (with_reducible exact ih3 _)
      | (with_reducible exact ih4 _ _ _ _ _ _ _ _)
      | (with_reducible exact ih5 _)
      | (with_reducible exact ih6 _ _ _ _ _ _ _)
      | (with_reducible exact laws_nSame.mono _ _ _)
      | (with_reducible exact spec_DrawConjugateByWord.mono _ _)
      | (with_reducible exact spec_DrawConjugatePair.mono _ _)
      | (with_reducible exact spec_DrawFindConjugator.mono _ _)
      | (with_reducible exact spec_DrawLeastConjugate.mono _ _)
      | (with_reducible exact LeO.refl _)
      | (with_reducible exact LeO.none _)
      | (with_reducible refine LeO.ite ?_ ?_)
      | (with_reducible refine LeO.bind ?_ (fun _ => ?_))
      | exact ih0 _ _ _ _ _ _ _ _ _
      | exact ih1 _
      | exact ih2 _ _ _ _ _ _ _ _ _
      | exact ih3 _
      | exact ih4 _ _ _ _ _ _ _ _
      | exact ih5 _
      | exact ih6 _ _ _ _ _ _ _
      | exact laws_nSame.mono _ _ _
      | exact spec_DrawConjugateByWord.mono _ _
      | exact spec_DrawConjugatePair.mono _ _
      | exact spec_DrawFindConjugator.mono _ _
      | exact spec_DrawLeastConjugate.mono _ _
      | exact LeO.none _
      | refine LeO.ite ?_ ?_
      | refine LeO.bind ?_ (fun _ => ?_)
    · intro y0
      unfold laws_FnConjugatesFound.j5
      repeat' first
      | (with_reducible exact ih0 _ _ _ _ _ _ _ _ _)
      | (with_reducible exact ih1 _)
      | (with_reducible exact ih2 _ _ _ _ _ _ _ _ _)
      | (with_reducible exact ih3 _)
      | (with_reducible exact ih4 _ _ _ _ _ _ _ _)
      | (with_reducible exact ih5 _)
      | (with_reducible exact ih6 _ _ _ _ _ _ _)
      | (with_reducible exact laws_nSame.mono _ _ _)
      | (with_reducible exact spec_DrawConjugateByWord.mono _ _)
      | (with_reducible exact spec_DrawConjugatePair.mono _ _)
      | (with_reducible exact spec_DrawFindConjugator.mono _ _)
      | (with_reducible exact spec_DrawLeastConjugate.mono _ _)
      | (with_reducible exact LeO.refl _)
      | (with_reducible exact LeO.none _)
      | (with_reducible refine LeO.ite ?_ ?_)
      | (with_reducible refine LeO.bind ?_ (fun _ => ?_))
      | exact ih0 _ _ _ _ _ _ _ _ _
      | exact ih1 _
      | exact ih2 _ _ _ _ _ _ _ _ _
      | exact ih3 _
      | exact ih4 _ _ _ _ _ _ _ _
      | exact ih5 _
      | exact ih6 _ _ _ _ _ _ _
      | exact laws_nSame.mono _ _ _
      | exact spec_DrawConjugateByWord.mono _ _
      | exact spec_DrawConjugatePair.mono _ _
      | exact spec_DrawFindConjugator.mono _ _
      | exact spec_DrawLeastConjugate.mono _ _
      | exact LeO.none _
      | refine LeO.ite ?_ ?_
      | refine LeO.bind ?_ (fun _ => ?_)
    · intro y0 y1 y2 y3 y4 y5 y6
      unfold laws_FnConjugatesFound.j6
      repeat' first
      | (with_reducible exact ih0 _ _ _ _ _ _ _ _ _)
      | (with_reducible exact ih1 _)
      | (with_reducible exact ih2 _ _ _ _ _ _ _ _ _)
      | (with_reducible exact ih3 _)
      | (with_reducible exact ih4 _ _ _ _ _ _ _ _)
      | (with_reducible exact ih5 _)
      | (with_reducible exact ih6 _ _ _ _ _ _ _)
      | (with_reducible exact laws_nSame.mono _ _ _)
      | (with_reducible exact spec_DrawConjugateByWord.mono _ _)
      | (with_reducible exact spec_DrawConjugatePair.mono _ _)
      | (with_reducible exact spec_DrawFindConjugator.mono _ _)
      | (with_reducible exact spec_DrawLeastConjugate.mono _ _)
      | (with_reducible exact LeO.refl _)
      | (with_reducible exact LeO.none _)
      | (with_reducible refine LeO.ite ?_ ?_)
      | (with_reducible refine LeO.bind ?_ (fun _ => ?_))
      | exact ih0 _ _ _ _ _ _ _ _ _
      | exact ih1 _
      | exact ih2 _ _ _ _ _ _ _ _ _
      | exact ih3 _
      | exact ih4 _ _ _ _ _ _ _ _
      | exact ih5 _
      | exact ih6 _ _ _ _ _ _ _
      | exact laws_nSame.mono _ _ _
      | exact spec_DrawConjugateByWord.mono _ _
      | exact spec_DrawConjugatePair.mono _ _
      | exact spec_DrawFindConjugator.mono _ _
      | exact spec_DrawLeastConjugate.mono _ _
      | exact LeO.none _
      | refine LeO.ite ?_ ?_
      | refine LeO.bind ?_ (fun _ => ?_)
theorem laws_FnConjugatesFound.mono : ∀ a0 a1 k, LeO (laws_FnConjugatesFound.f k a0 a1) (laws_FnConjugatesFound.f (k + 1) a0 a1) := by
  intro a0 a1 k
  obtain ⟨ih0, ih1, ih2, ih3, ih4, ih5, ih6⟩ := laws_FnConjugatesFound.mono_l k
  unfold laws_FnConjugatesFound.f
  repeat' first
      | (with_reducible exact ih0 _ _ _ _ _ _ _ _ _)
      | (with_reducible exact ih1 _)
      | (with_reducible exact ih2 _ _ _ _ _ _ _ _ _)
      | (with_reducible exact ih3 _)
      | (with_reducible exact ih4 _ _ _ _ _ _ _ _)
      | (with_reducible exact ih5 _)
      | (with_reducible exact ih6 _ _ _ _ _ _ _)
      | (with_reducible exact laws_nSame.mono _ _ _)
      | (with_reducible exact spec_DrawConjugateByWord.mono _ _)
      | (with_reducible exact spec_DrawConjugatePair.mono _ _)
      | (with_reducible exact spec_DrawFindConjugator.mono _ _)
      | (with_reducible exact spec_DrawLeastConjugate.mono _ _)
      | (with_reducible exact LeO.refl _)
      | (with_reducible exact LeO.none _)
      | (with_reducible refine LeO.ite ?_ ?_)
      | (with_reducible refine LeO.bind ?_ (fun _ => ?_))
      | exact ih0 _ _ _ _ _ _ _ _ _
      | exact ih1 _
      | exact ih2 _ _ _ _ _ _ _ _ _
      | exact ih3 _
      | exact ih4 _ _ _ _ _ _ _ _
      | exact ih5 _
      | exact ih6 _ _ _ _ _ _ _
      | exact laws_nSame.mono _ _ _
      | exact spec_DrawConjugateByWord.mono _ _
      | exact spec_DrawConjugatePair.mono _ _
      | exact spec_DrawFindConjugator.mono _ _
      | exact spec_DrawLeastConjugate.mono _ _
      | exact LeO.none _
      | refine LeO.ite ?_ ?_
      | refine LeO.bind ?_ (fun _ => ?_)
def laws_FnConjugatesFound.T15 : Bool × List (List Nat × List Nat) := (true, [([], []), ([0], [0]), ([], []), ([1, 2], [1, 2]), ([3], [3]), ([4], [4]), ([5, 4], [4, 5]), ([4, 6], [4, 6]), ([7, 4], [7]), ([8], [8]), ([9, 8], [8, 9]), ([8, 10], [8, 10]), ([11, 8], [11]), ([12], [12]), ([12], [12]), ([14, 12, 12], [12, 14]), ([13, 15, 12], [12, 13, 15]), ([12, 16], [12, 16]), ([17, 15], [17]), ([18], [18]), ([19, 18], [18, 19]), ([18, 20], [18, 20]), ([21, 18], [21]), ([22], [22]), ([23, 22], [22, 23]), ([22, 24], [22, 24]), ([25, 22], [25]), ([26], [26]), ([26], [26]), ([27, 28, 26], [26, 27, 28]), ([26, 29], [26, 29]), ([30, 26], [30]), ([31], [31]), ([31], [31]), ([32, 33, 31], [31, 32, 33]), ([31, 34], [31, 34])])
def laws_FnConjugatesFound.B15 : List Nat := [0, 1, 0, 7, 15, 31, 63, 127, 255, 511, 1023, 2047, 4095, 8191, 8191, 24575, 65535, 131071, 262143, 524287, 1048575, 2097151, 4194303, 8388607, 16777215, 33554431, 67108863, 134217727, 134217727, 536870911, 1073741823, 2147483647, 4294967295, 4294967295, 17179869183, 34359738367]
theorem laws_FnConjugatesFound.tab15 : rtab .any (opsOf Tryz.f3 15) = laws_FnConjugatesFound.T15 := by kernel_rfl
theorem laws_FnConjugatesFound.bits15 : waitsOk laws_FnConjugatesFound.T15.2 laws_FnConjugatesFound.B15 = true := by kernel_rfl
def laws_FnConjugatesFound.T27 : Bool × List (List Nat × List Nat) := (true, [([], []), ([0], [0]), ([1], [1]), ([2], [2]), ([3, 2], [2, 3]), ([2, 4], [2, 4]), ([5, 2], [5]), ([6], [6]), ([6], [6]), ([8, 6, 6], [6, 8]), ([7, 9, 6], [6, 7, 9]), ([6, 10], [6, 10]), ([11, 9], [11]), ([12], [12]), ([13, 12], [12, 13]), ([12, 14], [12, 14]), ([15, 12], [15]), ([16], [16]), ([17, 16], [16, 17]), ([16, 18], [16, 18]), ([19, 16], [19]), ([20], [20]), ([20], [20]), ([21, 22, 20], [20, 21, 22]), ([20, 23], [20, 23]), ([24, 20], [24]), ([25], [25]), ([25], [25]), ([26, 27, 25], [25, 26, 27]), ([25, 28], [25, 28])])
def laws_FnConjugatesFound.B27 : List Nat := [0, 1, 3, 7, 15, 31, 63, 127, 127, 383, 1023, 2047, 4095, 8191, 16383, 32767, 65535, 131071, 262143, 524287, 1048575, 2097151, 2097151, 8388607, 16777215, 33554431, 67108863, 67108863, 268435455, 536870911]
theorem laws_FnConjugatesFound.tab27 : rtab .any (opsOf Tryz.f3 27) = laws_FnConjugatesFound.T27 := by kernel_rfl
theorem laws_FnConjugatesFound.bits27 : waitsOk laws_FnConjugatesFound.T27.2 laws_FnConjugatesFound.B27 = true := by kernel_rfl
set_option maxHeartbeats 8000000 in
set_option maxRecDepth 100000 in
theorem laws_FnConjugatesFound.calls (k : Nat) (A0 : Option Addr) (c0 : Nat) (l0 : List Int) (A1 : Option Addr) (c1 : Nat) (l1 : List Int) (r : Bool) (w : World) (hr0 : Kd.C (Kd.int .u8) w A0 l0.length l0) (hc0 : l0.length ≤ c0) (hr1 : Kd.C (Kd.int .u8) w A1 l1.length l1) (hc1 : l1.length ≤ c1) (h : laws_FnConjugatesFound.f k l0 l1 = some r) (HRT : Aside0 (r = true)) :
    Calls Tryz.prog 3 #[.slice A0 l0.length c0, .slice A1 l1.length c1] w fun e w' => e = .returned (.bool r) ∧ Below w.heap.size w w' := by
  have hu25 := Tryz.underlying25
  have hfd25_0 : ∀ (a0_ a1_ : Value) (W_ : World), (Instr.field 25 (.agg #[a0_, a1_]) 0).run Tryz.prog W_ = .ok a0_ W_ := fun _ _ _ => by kernel_rfl
  have HR0 := Aside0.mk hr0
  have HC0 := Aside0.mk hc0
  clear hr0 hc0
  have HR1 := Aside0.mk hr1
  have HC1 := Aside0.mk hc1
  clear hr1 hc1
  have HB := Aside0.mk (Below.refl w.heap.size w)
  have H : ((laws_big.f l0 l1).bind fun t332 => (if t332 = true then (some true) else ((spec_DrawFindConjugator.f k l0).bind fun bt333 => ((impl_FindConjugator.f bt333.1 bt333.2.1 bt333.2.2.1 bt333.2.2.2.1 bt333.2.2.2.2).bind fun bt340 => ((spec_FindConjugator.f bt333.1 bt333.2.1 bt333.2.2.1 bt333.2.2.2.1 bt333.2.2.2.2).bind fun bt344 => ((impl_AreConjugateWithin.f bt333.1 bt333.2.1 bt333.2.2.1 bt333.2.2.2.1 bt333.2.2.2.2).bind fun bt348 => ((spec_AreConjugateWithin.f bt333.1 bt333.2.1 bt333.2.2.1 bt333.2.2.2.1 bt333.2.2.2.2).bind fun bt350 => (if (bt340.2 != bt344.2) = true then (laws_FnConjugatesFound.j0 k l1 bt333.2.2.2.2 bt340.1 bt340.2 true bt333.1 bt333.2.1 bt333.2.2.1 bt333.2.2.2.1) else ((laws_nSame.f k bt340.1 bt344.1).bind fun t352 => (if t352 = true then (if (bt348.2 != bt350.2) = true then (laws_FnConjugatesFound.j0 k l1 bt333.2.2.2.2 bt340.1 bt340.2 true bt333.1 bt333.2.1 bt333.2.2.1 bt333.2.2.2.1) else (if (bt348.1 != bt350.1) = true then (laws_FnConjugatesFound.j0 k l1 bt333.2.2.2.2 bt340.1 bt340.2 true bt333.1 bt333.2.1 bt333.2.2.1 bt333.2.2.2.1) else (if bt348.2 = true then (if (bt348.1 != bt340.2) = true then (laws_FnConjugatesFound.j0 k l1 bt333.2.2.2.2 bt340.1 bt340.2 true bt333.1 bt333.2.1 bt333.2.2.1 bt333.2.2.2.1) else (laws_FnConjugatesFound.j0 k l1 bt333.2.2.2.2 bt340.1 bt340.2 false bt333.1 bt333.2.1 bt333.2.2.1 bt333.2.2.2.1)) else (laws_FnConjugatesFound.j0 k l1 bt333.2.2.2.2 bt340.1 bt340.2 bt340.2 bt333.1 bt333.2.1 bt333.2.2.1 bt333.2.2.2.1)))) else (laws_FnConjugatesFound.j0 k l1 bt333.2.2.2.2 bt340.1 bt340.2 true bt333.1 bt333.2.1 bt333.2.2.1 bt333.2.2.2.1))))))))))) = some r := h
  clear h
  replace H := Option.bind_eq_some_iff.mp H
  obtain ⟨t332, A30, H⟩ := H
  (try dsimp only at H)
  have A3 := Aside0.mk A30
  clear A30
  by_cases c4 : t332 = true
  · subst c4
    rw [if_pos rfl] at H
    obtain rfl := Option.some.inj H
    go_enter Tryz.func3, Tryz.ntmps3
    go_wp2_with (first | ((with_reducible refine gate_callee (f := 4) rfl ?_); refine goesL_ (some 66) rfl rfl Tryz.func4 (by kernel_rfl) rfl #[.slice A0 l0.length c0, .slice A1 l1.length c1] rfl lm ?_; (with_reducible refine (laws_big.calls _ _ l0 _ _ l1 true _ ?side1 ?side2 ?side3 ?side4 A3.out).mono ?_); (case side1 => repeat (first | exact HR0.out | (with_reducible refine Kd.C_alloc ?_ _) | (with_reducible refine Kd.C_drewN ?_ _) | (with_reducible refine Kd.C_drew ?_))); (case side2 => exact HC0.out); (case side3 => repeat (first | exact HR1.out | (with_reducible refine Kd.C_alloc ?_ _) | (with_reducible refine Kd.C_drewN ?_ _) | (with_reducible refine Kd.C_drew ?_))); (case side4 => exact HC1.out); rintro e w' ⟨rfl, ⟨nd, rfl⟩⟩; refine ⟨_, rfl, ?_⟩))
    go_ret
    exact ⟨by first | rfl | (simp [errW_none, errW_some] <;> rfl) | (simp [*, errW_none, errW_some] <;> rfl), by exact lB HB.out⟩
  replace c4 := Bool.eq_false_iff.mpr c4
  subst c4
  rw [if_neg (show ¬ (false = true) by decide)] at H
  replace H := Option.bind_eq_some_iff.mp H
  obtain ⟨⟨t333, t334, t335, t336, t337⟩, A50, H⟩ := H
  (try dsimp only at H)
  have A5 := Aside0.mk A50
  clear A50
  replace H := Option.bind_eq_some_iff.mp H
  obtain ⟨⟨t340, t343⟩, A60, H⟩ := H
  (try dsimp only at H)
  have A6 := Aside0.mk A60
  clear A60
  replace H := Option.bind_eq_some_iff.mp H
  obtain ⟨⟨t344, t347⟩, A70, H⟩ := H
  (try dsimp only at H)
  have A7 := Aside0.mk A70
  clear A70
  replace H := Option.bind_eq_some_iff.mp H
  obtain ⟨⟨t348, t349⟩, A80, H⟩ := H
  (try dsimp only at H)
  have A8 := Aside0.mk A80
  clear A80
  replace H := Option.bind_eq_some_iff.mp H
  obtain ⟨⟨t350, t351⟩, A90, H⟩ := H
  (try dsimp only at H)
  have A9 := Aside0.mk A90
  clear A90
  have HC10 := Aside0.mk H
  clear H
  go_enter Tryz.func3, Tryz.ntmps3
  go_upto_region 8 with (first | ((with_reducible refine gate_callee (f := 4) rfl ?_); refine goesL_ (some 66) rfl rfl Tryz.func4 (by kernel_rfl) rfl #[.slice A0 l0.length c0, .slice A1 l1.length c1] rfl lm ?_; (with_reducible refine (laws_big.calls _ _ l0 _ _ l1 false _ ?side1 ?side2 ?side3 ?side4 A3.out).mono ?_); (case side1 => repeat (first | exact HR0.out | (with_reducible refine Kd.C_alloc ?_ _) | (with_reducible refine Kd.C_drewN ?_ _) | (with_reducible refine Kd.C_drew ?_))); (case side2 => exact HC0.out); (case side3 => repeat (first | exact HR1.out | (with_reducible refine Kd.C_alloc ?_ _) | (with_reducible refine Kd.C_drewN ?_ _) | (with_reducible refine Kd.C_drew ?_))); (case side4 => exact HC1.out); rintro e w' ⟨rfl, ⟨nd, rfl⟩⟩; refine ⟨_, rfl, ?_⟩) | ((with_reducible refine gate_callee (f := 5) rfl ?_); refine goesL_ (some 69) rfl rfl Tryz.func5 (by kernel_rfl) rfl #[.slice A0 l0.length c0] rfl lm ?_; (with_reducible refine (spec_DrawFindConjugator.calls k _ _ l0 t333 t334 t335 t336 t337 _ ?side1 ?side2 A5.out).mono ?_); (case side1 => repeat (first | exact HR0.out | (with_reducible refine Kd.C_alloc ?_ _) | (with_reducible refine Kd.C_drewN ?_ _) | (with_reducible refine Kd.C_drew ?_))); (case side2 => exact HC0.out); rintro e w11 ⟨rfl, hb⟩; refine ⟨_, rfl, ?_⟩; have n0_ := Aside0.mk (below_step (lB HB.out) hb); clear HB; have HB := n0_; clear n0_; (try clear hb); (try clear hb2); (try clear hk); (try clear hi)) | ((with_reducible refine gate_dst (N := 5) rfl ?_); refine box_event ?hg (N := 5) ?hd (cs := #[.string (⟨#[]⟩ : ByteArray), .string (⟨#[]⟩ : ByteArray)]) (t := 25) ?hr ?_; (case hd => rfl); (case hg => rfl); (case hr => exact lr); intro gb338 hg w12 hbox hb; have n0_ := Aside0.mk (below_step (lB HB.out) hb); have n1_ := Aside0.mk (hbox); have n2_ := gw hg (lB HB.out); have n3_ := gw hg (lB HB.out); clear HB; have HB := n0_; have BK338 := n1_; have GW338 := n2_; have GE338 := n3_; clear n0_ n1_ n2_ n3_; clear hb hbox hg) | ((with_reducible refine gate_dst (N := 6) rfl ?_); refine box_event ?hg (N := 6) ?hd (cs := #[.string (⟨#[]⟩ : ByteArray), .string (⟨#[]⟩ : ByteArray)]) (t := 25) ?hr ?_; (case hd => rfl); (case hg => rfl); (case hr => exact lr); intro gb339 hg w13 hbox hb; have n0_ := Aside0.mk (blk_below (lb BK338.out) hb); have n1_ := Aside0.mk (below_step (lB HB.out) hb); have n2_ := Aside0.mk (hbox); have n3_ := gw hg (lB HB.out); have n4_ := gw hg (lB HB.out); have n5_ := na hg (lb BK338.out); have n6_ := nz hg (lb BK338.out); clear BK338 HB; have BK338 := n0_; have HB := n1_; have BK339 := n2_; have GW339 := n3_; have GE339 := n4_; have NB338_339 := n5_; have NB339_338 := n6_; clear n0_ n1_ n2_ n3_ n4_ n5_ n6_; clear hb hbox hg; have hnb14 := NB338_339.out; have hnc14 := NB339_338.out; have hcz15_0 : w13.cell? ⟨gb338, 0, none⟩ = some (.string (⟨#[]⟩ : ByteArray)) := (blk_cell BK338.out 0).trans rfl; have hcz15_1 : w13.cell? ⟨gb338, 1, none⟩ = some (.string (⟨#[]⟩ : ByteArray)) := (blk_cell BK338.out 1).trans rfl; have hfz15_0 := blk_frozen BK338.out 0; have hfz15_1 := blk_frozen BK338.out 1; have hcz16_0 : w13.cell? ⟨gb339, 0, none⟩ = some (.string (⟨#[]⟩ : ByteArray)) := (blk_cell BK339.out 0).trans rfl; have hcz16_1 : w13.cell? ⟨gb339, 1, none⟩ = some (.string (⟨#[]⟩ : ByteArray)) := (blk_cell BK339.out 1).trans rfl; have hfz16_0 := blk_frozen BK339.out 0; have hfz16_1 := blk_frozen BK339.out 1) | ((with_reducible refine gate_callee (f := 6) rfl ?_); refine goesL_ (some 77) rfl rfl Tryz.func6 (by kernel_rfl) rfl #[.agg #[.string t333, .string t334], .agg #[.string t335, .string t336], .int .i64 t337] rfl lm ?_; (with_reducible refine (impl_FindConjugator.calls t333 t334 t335 t336 t337 t340 t343 _ A6.out).mono ?_); rintro e w17 ⟨v341, rfl, ho0, hb⟩; refine ⟨_, rfl, ?_⟩; have n0_ := Aside0.mk (Kd.R_lower ho0 (below_size (lB HB.out))); have n1_ := Aside0.mk (blk_below (g := gb338) (o := .cells #[.string t333, .string t334] 25 (0, 0)) (by (with_reducible repeat (first | refine blk_drewN ?_ _ | refine blk_drew ?_ | refine blk_alloc ?_ _)); refine blk_far ?_ NB338_339.out _; (with_reducible repeat (first | refine blk_drewN ?_ _ | refine blk_drew ?_ | refine blk_alloc ?_ _)); refine blk_far ?_ NB338_339.out _; (with_reducible repeat (first | refine blk_drewN ?_ _ | refine blk_drew ?_ | refine blk_alloc ?_ _)); refine blk_put (cs := #[.string t333, .string (⟨#[]⟩ : ByteArray)]) ?_ 1 _ rfl; (with_reducible repeat (first | refine blk_drewN ?_ _ | refine blk_drew ?_ | refine blk_alloc ?_ _)); refine blk_put (cs := #[.string (⟨#[]⟩ : ByteArray), .string (⟨#[]⟩ : ByteArray)]) ?_ 0 _ rfl; exact lb BK338.out) hb); have n2_ := Aside0.mk (blk_below (g := gb339) (o := .cells #[.string t335, .string t336] 25 (0, 0)) (by (with_reducible repeat (first | refine blk_drewN ?_ _ | refine blk_drew ?_ | refine blk_alloc ?_ _)); refine blk_put (cs := #[.string t335, .string (⟨#[]⟩ : ByteArray)]) ?_ 1 _ rfl; (with_reducible repeat (first | refine blk_drewN ?_ _ | refine blk_drew ?_ | refine blk_alloc ?_ _)); refine blk_put (cs := #[.string (⟨#[]⟩ : ByteArray), .string (⟨#[]⟩ : ByteArray)]) ?_ 0 _ rfl; (with_reducible repeat (first | refine blk_drewN ?_ _ | refine blk_drew ?_ | refine blk_alloc ?_ _)); refine blk_far ?_ NB339_338.out _; (with_reducible repeat (first | refine blk_drewN ?_ _ | refine blk_drew ?_ | refine blk_alloc ?_ _)); refine blk_far ?_ NB339_338.out _; exact lb BK339.out) hb); have n3_ := Aside0.mk (below_step (lB HB.out) hb); clear BK338 BK339 HB; have HO342 := n0_; have BK338 := n1_; have BK339 := n2_; have HB := n3_; clear n0_ n1_ n2_ n3_; (try clear hb); (try clear hb2); (try clear hk); (try clear hi); (try clear ho0); have hcz18_0 : w17.cell? ⟨gb338, 0, none⟩ = some (.string t333) := (blk_cell BK338.out 0).trans rfl; have hcz18_1 : w17.cell? ⟨gb338, 1, none⟩ = some (.string t334) := (blk_cell BK338.out 1).trans rfl; have hfz18_0 := blk_frozen BK338.out 0; have hfz18_1 := blk_frozen BK338.out 1; have hcz19_0 : w17.cell? ⟨gb339, 0, none⟩ = some (.string t335) := (blk_cell BK339.out 0).trans rfl; have hcz19_1 : w17.cell? ⟨gb339, 1, none⟩ = some (.string t336) := (blk_cell BK339.out 1).trans rfl; have hfz19_0 := blk_frozen BK339.out 0; have hfz19_1 := blk_frozen BK339.out 1) | ((with_reducible refine gate_callee (f := 7) rfl ?_); refine goesL_ (some 84) rfl rfl Tryz.func7 (by kernel_rfl) rfl #[.agg #[.string t333, .string t334], .agg #[.string t335, .string t336], .int .i64 t337] rfl lm ?_; (with_reducible refine (spec_FindConjugator.calls t333 t334 t335 t336 t337 t344 t347 _ A7.out).mono ?_); rintro e w20 ⟨v345, rfl, ho0, hb⟩; refine ⟨_, rfl, ?_⟩; have n0_ := Aside0.mk (Kd.R_elder' (by (with_reducible repeat (first | apply Kd.R_alloc | apply Kd.R_drewN | apply Kd.R_drew)); exact HO342.out) (Kd.R_base ho0) hb); have n1_ := Aside0.mk (Kd.R_lower (Kd.R_new' ho0 (Kd.R_lt (by (with_reducible repeat (first | apply Kd.R_alloc | apply Kd.R_drewN | apply Kd.R_drew)); exact HO342.out))) (below_size (lB HB.out))); have n2_ := Aside0.mk (blk_below (lb BK338.out) hb); have n3_ := Aside0.mk (blk_below (lb BK339.out) hb); have n4_ := Aside0.mk (below_step (lB HB.out) hb); clear HO342 BK338 BK339 HB; have HO342 := n0_; have HO346 := n1_; have BK338 := n2_; have BK339 := n3_; have HB := n4_; clear n0_ n1_ n2_ n3_ n4_; (try clear hb); (try clear hb2); (try clear hk); (try clear hi); (try clear ho0); have hcz21_0 : w20.cell? ⟨gb338, 0, none⟩ = some (.string t333) := (blk_cell BK338.out 0).trans rfl; have hcz21_1 : w20.cell? ⟨gb338, 1, none⟩ = some (.string t334) := (blk_cell BK338.out 1).trans rfl; have hfz21_0 := blk_frozen BK338.out 0; have hfz21_1 := blk_frozen BK338.out 1; have hcz22_0 : w20.cell? ⟨gb339, 0, none⟩ = some (.string t335) := (blk_cell BK339.out 0).trans rfl; have hcz22_1 : w20.cell? ⟨gb339, 1, none⟩ = some (.string t336) := (blk_cell BK339.out 1).trans rfl; have hfz22_0 := blk_frozen BK339.out 0; have hfz22_1 := blk_frozen BK339.out 1) | ((with_reducible refine gate_callee (f := 8) rfl ?_); refine goesL_ (some 91) rfl rfl Tryz.func8 (by kernel_rfl) rfl #[.agg #[.string t333, .string t334], .agg #[.string t335, .string t336], .int .i64 t337] rfl lm ?_; (with_reducible refine (impl_AreConjugateWithin.calls t333 t334 t335 t336 t337 t348 t349 _ A8.out).mono ?_); rintro e w23 ⟨rfl, hb⟩; refine ⟨_, rfl, ?_⟩; have n0_ := Aside0.mk (Kd.R_below (by (with_reducible repeat (first | apply Kd.R_alloc | apply Kd.R_drewN | apply Kd.R_drew)); exact HO342.out) hb); have n1_ := Aside0.mk (Kd.R_below (by (with_reducible repeat (first | apply Kd.R_alloc | apply Kd.R_drewN | apply Kd.R_drew)); exact HO346.out) hb); have n2_ := Aside0.mk (blk_below (lb BK338.out) hb); have n3_ := Aside0.mk (blk_below (lb BK339.out) hb); have n4_ := Aside0.mk (below_step (lB HB.out) hb); clear HO342 HO346 BK338 BK339 HB; have HO342 := n0_; have HO346 := n1_; have BK338 := n2_; have BK339 := n3_; have HB := n4_; clear n0_ n1_ n2_ n3_ n4_; (try clear hb); (try clear hb2); (try clear hk); (try clear hi); have hcz24_0 : w23.cell? ⟨gb338, 0, none⟩ = some (.string t333) := (blk_cell BK338.out 0).trans rfl; have hcz24_1 : w23.cell? ⟨gb338, 1, none⟩ = some (.string t334) := (blk_cell BK338.out 1).trans rfl; have hfz24_0 := blk_frozen BK338.out 0; have hfz24_1 := blk_frozen BK338.out 1; have hcz25_0 : w23.cell? ⟨gb339, 0, none⟩ = some (.string t335) := (blk_cell BK339.out 0).trans rfl; have hcz25_1 : w23.cell? ⟨gb339, 1, none⟩ = some (.string t336) := (blk_cell BK339.out 1).trans rfl; have hfz25_0 := blk_frozen BK339.out 0; have hfz25_1 := blk_frozen BK339.out 1) | ((with_reducible refine gate_callee (f := 9) rfl ?_); refine goesL_ (some 98) rfl rfl Tryz.func9 (by kernel_rfl) rfl #[.agg #[.string t333, .string t334], .agg #[.string t335, .string t336], .int .i64 t337] rfl lm ?_; (with_reducible refine (spec_AreConjugateWithin.calls t333 t334 t335 t336 t337 t350 t351 _ A9.out).mono ?_); rintro e w26 ⟨rfl, hb⟩; refine ⟨_, rfl, ?_⟩; have n0_ := Aside0.mk (Kd.R_below (by (with_reducible repeat (first | apply Kd.R_alloc | apply Kd.R_drewN | apply Kd.R_drew)); exact HO342.out) hb); have n1_ := Aside0.mk (Kd.R_below (by (with_reducible repeat (first | apply Kd.R_alloc | apply Kd.R_drewN | apply Kd.R_drew)); exact HO346.out) hb); have n2_ := Aside0.mk (blk_below (lb BK338.out) hb); have n3_ := Aside0.mk (blk_below (lb BK339.out) hb); have n4_ := Aside0.mk (below_step (lB HB.out) hb); clear HO342 HO346 BK338 BK339 HB; have HO342 := n0_; have HO346 := n1_; have BK338 := n2_; have BK339 := n3_; have HB := n4_; clear n0_ n1_ n2_ n3_ n4_; (try clear hb); (try clear hb2); (try clear hk); (try clear hi)))
  (try simp only [Act.put, List.setIfInBounds_toArray, List.set_cons_zero, List.set_cons_succ])
  go_cut [134] (fun v134 wc => ∃ (kq : Nat) (x134_9 : Bool), v134 = .bool x134_9 ∧ Aside0 (laws_FnConjugatesFound.j0 kq l1 t337 t340 t343 x134_9 t333 t334 t335 t336 = some r) ∧ Aside0 (kq ≤ k) ∧ Aside0 (Kd.R (Kd.int .i64) 3 wc w.heap.size (fun _ => True) v341 t340) ∧ Aside0 (wc.heap[gb338]? = some (.cells #[.string t333, .string t334] 25 (0, 0))) ∧ Aside0 (wc.heap[gb339]? = some (.cells #[.string t335, .string t336] 25 (0, 0))) ∧ Aside0 (Below w.heap.size w wc))
  case first =>
   as_aux_lemma =>
   have H := HC10.out
   clear HC10
   by_cases c27 : (t343 != t347) = true
   · rw [if_pos c27] at H
     have c27b0 : (t343 != t347) = true := c27
     (try (have c27b1 : decide (t343 = t347) = false := by simpa using c27))
     (try (have c27b2 : (t343 == t347) = false := by simpa using c27))
     (try (have c27b3 : ¬ (t343 = t347) := by simpa using c27))
     clear c27
     (first | rw [c27b0] | (simp only [i64_w, i32_w]; rw [c27b0]) | skip)
     have H' := Aside0.mk H
     clear H
     go_wp2
     go_meet
     case rel => exact ⟨_, (true), (by first | rfl | (simp; done) | (simp [*]; done)), H', ⟨by first | omega | exact Nat.le_refl _⟩, ⟨by (with_reducible repeat (first | apply Kd.R_alloc | apply Kd.R_drewN | apply Kd.R_drew)); exact Kd.R_mono HO342.out (fun _ hk => trivial)⟩, ⟨lb BK338.out⟩, ⟨lb BK339.out⟩, ⟨by exact lB HB.out⟩⟩
   rw [if_neg c27] at H
   have c27b0 : (t343 != t347) = false := by simpa using c27
   (try (have c27b1 : decide (t343 = t347) = true := by simpa using c27))
   (try (have c27b2 : (t343 == t347) = true := by simpa using c27))
   clear c27
   (first | rw [c27b0] | (simp only [i64_w, i32_w]; rw [c27b0]) | skip)
   replace H := Option.bind_eq_some_iff.mp H
   obtain ⟨t352, A280, H⟩ := H
   (try dsimp only at H)
   have A28 := Aside0.mk A280
   clear A280
   by_cases c29 : t352 = true
   rotate_left
   · replace c29 := Bool.eq_false_iff.mpr c29
     subst c29
     rw [if_neg (show ¬ (false = true) by decide)] at H
     have H' := Aside0.mk H
     clear H
     obtain ⟨Ao44, co44, eo44⟩ := Kd.R_slice HO342.out
     subst eo44
     obtain ⟨Ao45, co45, eo45⟩ := Kd.R_slice HO346.out
     subst eo45
     go_wp2_with (first | (go_at_call 10; (with_reducible refine (laws_nSame.calls k _ _ t340 _ _ t344 false _ ?side1 ?side2 ?side3 ?side4 A28.out).mono ?_); (case side1 => repeat (first | exact (Kd.R_reads' HO342.out).2.2 | (with_reducible refine Kd.C_alloc ?_ _) | (with_reducible refine Kd.C_drewN ?_ _) | (with_reducible refine Kd.C_drew ?_))); (case side2 => exact (Kd.R_reads' HO342.out).2.1); (case side3 => repeat (first | exact (Kd.R_reads' HO346.out).2.2 | (with_reducible refine Kd.C_alloc ?_ _) | (with_reducible refine Kd.C_drewN ?_ _) | (with_reducible refine Kd.C_drew ?_))); (case side4 => exact (Kd.R_reads' HO346.out).2.1); rintro e w' ⟨rfl, ⟨nd, rfl⟩⟩))
     go_meet
     case rel => exact ⟨_, (true), (by first | rfl | (simp; done) | (simp [*]; done)), H', ⟨by first | omega | exact Nat.le_refl _⟩, ⟨by (with_reducible repeat (first | apply Kd.R_alloc | apply Kd.R_drewN | apply Kd.R_drew)); exact Kd.R_mono HO342.out (fun _ hk => trivial)⟩, ⟨lb BK338.out⟩, ⟨lb BK339.out⟩, ⟨by exact lB HB.out⟩⟩
   subst c29
   rw [if_pos rfl] at H
   by_cases c30 : (t349 != t351) = true
   · rw [if_pos c30] at H
     have c30b0 : (t349 != t351) = true := c30
     (try (have c30b1 : decide (t349 = t351) = false := by simpa using c30))
     (try (have c30b2 : (t349 == t351) = false := by simpa using c30))
     (try (have c30b3 : ¬ (t349 = t351) := by simpa using c30))
     clear c30
     have H' := Aside0.mk H
     clear H
     obtain ⟨Ao31, co31, eo31⟩ := Kd.R_slice HO342.out
     subst eo31
     obtain ⟨Ao32, co32, eo32⟩ := Kd.R_slice HO346.out
     subst eo32
     go_wp2_with (first | (go_at_call 10; (with_reducible refine (laws_nSame.calls k _ _ t340 _ _ t344 true _ ?side1 ?side2 ?side3 ?side4 A28.out).mono ?_); (case side1 => repeat (first | exact (Kd.R_reads' HO342.out).2.2 | (with_reducible refine Kd.C_alloc ?_ _) | (with_reducible refine Kd.C_drewN ?_ _) | (with_reducible refine Kd.C_drew ?_))); (case side2 => exact (Kd.R_reads' HO342.out).2.1); (case side3 => repeat (first | exact (Kd.R_reads' HO346.out).2.2 | (with_reducible refine Kd.C_alloc ?_ _) | (with_reducible refine Kd.C_drewN ?_ _) | (with_reducible refine Kd.C_drew ?_))); (case side4 => exact (Kd.R_reads' HO346.out).2.1); rintro e w' ⟨rfl, ⟨nd, rfl⟩⟩))
     go_meet
     case rel => exact ⟨_, (true), (by first | rfl | (simp; done) | (simp [*]; done)), H', ⟨by first | omega | exact Nat.le_refl _⟩, ⟨by (with_reducible repeat (first | apply Kd.R_alloc | apply Kd.R_drewN | apply Kd.R_drew)); exact Kd.R_mono HO342.out (fun _ hk => trivial)⟩, ⟨lb BK338.out⟩, ⟨lb BK339.out⟩, ⟨by exact lB HB.out⟩⟩
   rw [if_neg c30] at H
   have c30b0 : (t349 != t351) = false := by simpa using c30
   (try (have c30b1 : decide (t349 = t351) = true := by simpa using c30))
   (try (have c30b2 : (t349 == t351) = true := by simpa using c30))
   clear c30
   by_cases c33 : (t348 != t350) = true
   · rw [if_pos c33] at H
     have c33b0 : (t348 != t350) = true := c33
     (try (have c33b1 : decide (t348 = t350) = false := by simpa using c33))
     (try (have c33b2 : (t348 == t350) = false := by simpa using c33))
     (try (have c33b3 : ¬ (t348 = t350) := by simpa using c33))
     clear c33
     have H' := Aside0.mk H
     clear H
     obtain ⟨Ao34, co34, eo34⟩ := Kd.R_slice HO342.out
     subst eo34
     obtain ⟨Ao35, co35, eo35⟩ := Kd.R_slice HO346.out
     subst eo35
     go_wp2_with (first | (go_at_call 10; (with_reducible refine (laws_nSame.calls k _ _ t340 _ _ t344 true _ ?side1 ?side2 ?side3 ?side4 A28.out).mono ?_); (case side1 => repeat (first | exact (Kd.R_reads' HO342.out).2.2 | (with_reducible refine Kd.C_alloc ?_ _) | (with_reducible refine Kd.C_drewN ?_ _) | (with_reducible refine Kd.C_drew ?_))); (case side2 => exact (Kd.R_reads' HO342.out).2.1); (case side3 => repeat (first | exact (Kd.R_reads' HO346.out).2.2 | (with_reducible refine Kd.C_alloc ?_ _) | (with_reducible refine Kd.C_drewN ?_ _) | (with_reducible refine Kd.C_drew ?_))); (case side4 => exact (Kd.R_reads' HO346.out).2.1); rintro e w' ⟨rfl, ⟨nd, rfl⟩⟩))
     go_meet
     case rel => exact ⟨_, (true), (by first | rfl | (simp; done) | (simp [*]; done)), H', ⟨by first | omega | exact Nat.le_refl _⟩, ⟨by (with_reducible repeat (first | apply Kd.R_alloc | apply Kd.R_drewN | apply Kd.R_drew)); exact Kd.R_mono HO342.out (fun _ hk => trivial)⟩, ⟨lb BK338.out⟩, ⟨lb BK339.out⟩, ⟨by exact lB HB.out⟩⟩
   rw [if_neg c33] at H
   have c33b0 : (t348 != t350) = false := by simpa using c33
   (try (have c33b1 : decide (t348 = t350) = true := by simpa using c33))
   (try (have c33b2 : (t348 == t350) = true := by simpa using c33))
   clear c33
   by_cases c36 : t349 = true
   rotate_left
   · replace c36 := Bool.eq_false_iff.mpr c36
     subst c36
     rw [if_neg (show ¬ (false = true) by decide)] at H
     have H' := Aside0.mk H
     clear H
     obtain ⟨Ao42, co42, eo42⟩ := Kd.R_slice HO342.out
     subst eo42
     obtain ⟨Ao43, co43, eo43⟩ := Kd.R_slice HO346.out
     subst eo43
     go_wp2_with (first | (go_at_call 10; (with_reducible refine (laws_nSame.calls k _ _ t340 _ _ t344 true _ ?side1 ?side2 ?side3 ?side4 A28.out).mono ?_); (case side1 => repeat (first | exact (Kd.R_reads' HO342.out).2.2 | (with_reducible refine Kd.C_alloc ?_ _) | (with_reducible refine Kd.C_drewN ?_ _) | (with_reducible refine Kd.C_drew ?_))); (case side2 => exact (Kd.R_reads' HO342.out).2.1); (case side3 => repeat (first | exact (Kd.R_reads' HO346.out).2.2 | (with_reducible refine Kd.C_alloc ?_ _) | (with_reducible refine Kd.C_drewN ?_ _) | (with_reducible refine Kd.C_drew ?_))); (case side4 => exact (Kd.R_reads' HO346.out).2.1); rintro e w' ⟨rfl, ⟨nd, rfl⟩⟩))
     go_meet
     case rel => exact ⟨_, (t343), (by first | rfl | (simp; done) | (simp [*]; done)), H', ⟨by first | omega | exact Nat.le_refl _⟩, ⟨by (with_reducible repeat (first | apply Kd.R_alloc | apply Kd.R_drewN | apply Kd.R_drew)); exact Kd.R_mono HO342.out (fun _ hk => trivial)⟩, ⟨lb BK338.out⟩, ⟨lb BK339.out⟩, ⟨by exact lB HB.out⟩⟩
   subst c36
   rw [if_pos rfl] at H
   by_cases c37 : (t348 != t343) = true
   rotate_left
   · rw [if_neg c37] at H
     have c37b0 : (t348 != t343) = false := by simpa using c37
     (try (have c37b1 : decide (t348 = t343) = true := by simpa using c37))
     (try (have c37b2 : (t348 == t343) = true := by simpa using c37))
     clear c37
     have H' := Aside0.mk H
     clear H
     obtain ⟨Ao40, co40, eo40⟩ := Kd.R_slice HO342.out
     subst eo40
     obtain ⟨Ao41, co41, eo41⟩ := Kd.R_slice HO346.out
     subst eo41
     go_wp2_with (first | (go_at_call 10; (with_reducible refine (laws_nSame.calls k _ _ t340 _ _ t344 true _ ?side1 ?side2 ?side3 ?side4 A28.out).mono ?_); (case side1 => repeat (first | exact (Kd.R_reads' HO342.out).2.2 | (with_reducible refine Kd.C_alloc ?_ _) | (with_reducible refine Kd.C_drewN ?_ _) | (with_reducible refine Kd.C_drew ?_))); (case side2 => exact (Kd.R_reads' HO342.out).2.1); (case side3 => repeat (first | exact (Kd.R_reads' HO346.out).2.2 | (with_reducible refine Kd.C_alloc ?_ _) | (with_reducible refine Kd.C_drewN ?_ _) | (with_reducible refine Kd.C_drew ?_))); (case side4 => exact (Kd.R_reads' HO346.out).2.1); rintro e w' ⟨rfl, ⟨nd, rfl⟩⟩))
     go_meet
     case rel => exact ⟨_, (false), (by first | rfl | (simp; done) | (simp [*]; done)), H', ⟨by first | omega | exact Nat.le_refl _⟩, ⟨by (with_reducible repeat (first | apply Kd.R_alloc | apply Kd.R_drewN | apply Kd.R_drew)); exact Kd.R_mono HO342.out (fun _ hk => trivial)⟩, ⟨lb BK338.out⟩, ⟨lb BK339.out⟩, ⟨by exact lB HB.out⟩⟩
   rw [if_pos c37] at H
   have c37b0 : (t348 != t343) = true := c37
   (try (have c37b1 : decide (t348 = t343) = false := by simpa using c37))
   (try (have c37b2 : (t348 == t343) = false := by simpa using c37))
   (try (have c37b3 : ¬ (t348 = t343) := by simpa using c37))
   clear c37
   have H' := Aside0.mk H
   clear H
   obtain ⟨Ao38, co38, eo38⟩ := Kd.R_slice HO342.out
   subst eo38
   obtain ⟨Ao39, co39, eo39⟩ := Kd.R_slice HO346.out
   subst eo39
   go_wp2_with (first | (go_at_call 10; (with_reducible refine (laws_nSame.calls k _ _ t340 _ _ t344 true _ ?side1 ?side2 ?side3 ?side4 A28.out).mono ?_); (case side1 => repeat (first | exact (Kd.R_reads' HO342.out).2.2 | (with_reducible refine Kd.C_alloc ?_ _) | (with_reducible refine Kd.C_drewN ?_ _) | (with_reducible refine Kd.C_drew ?_))); (case side2 => exact (Kd.R_reads' HO342.out).2.1); (case side3 => repeat (first | exact (Kd.R_reads' HO346.out).2.2 | (with_reducible refine Kd.C_alloc ?_ _) | (with_reducible refine Kd.C_drewN ?_ _) | (with_reducible refine Kd.C_drew ?_))); (case side4 => exact (Kd.R_reads' HO346.out).2.1); rintro e w' ⟨rfl, ⟨nd, rfl⟩⟩))
   go_meet
   case rel => exact ⟨_, (true), (by first | rfl | (simp; done) | (simp [*]; done)), H', ⟨by first | omega | exact Nat.le_refl _⟩, ⟨by (with_reducible repeat (first | apply Kd.R_alloc | apply Kd.R_drewN | apply Kd.R_drew)); exact Kd.R_mono HO342.out (fun _ hk => trivial)⟩, ⟨lb BK338.out⟩, ⟨lb BK339.out⟩, ⟨by exact lB HB.out⟩⟩
  case rest =>
  as_aux_lemma =>
  clear HC10
  (try clear c1); (try clear c4); (try clear hcz15_0); (try clear hcz15_1); (try clear hcz16_0); (try clear hcz16_1); (try clear hcz18_0); (try clear hcz18_1); (try clear hcz19_0); (try clear hcz19_1); (try clear hcz21_0); (try clear hcz21_1); (try clear hcz22_0)
  (try clear hcz22_1); (try clear hcz24_0); (try clear hcz24_1); (try clear hcz25_0); (try clear hcz25_1); (try clear hfz15_0); (try clear hfz15_1); (try clear hfz16_0); (try clear hfz16_1); (try clear hfz18_0); (try clear hfz18_1); (try clear hfz19_0); (try clear hfz19_1); (try clear hfz21_0); (try clear hfz21_1); (try clear hfz22_0); (try clear hfz22_1); (try clear hfz24_0); (try clear hfz24_1); (try clear hfz25_0); (try clear hfz25_1)
  obtain ⟨kq, x134_9, rfl, HA, HJ9, HO_8, BK338, BK339, HB⟩ := hcut
  cases kq with
  | zero => exact absurd HA.out (by simp [laws_FnConjugatesFound.j0])
  | succ kj9 =>
   have H := HA.out
   clear HA
   simp only [laws_FnConjugatesFound.j0] at H
   by_cases c46 : x134_9 = true
   · subst c46
     rw [if_pos rfl] at H
     exact absurd ((Option.some.inj H).trans HRT.out) (by decide)
   replace c46 := Bool.eq_false_iff.mpr c46
   subst c46
   rw [if_neg (show ¬ (false = true) by decide)] at H
   have HC47 := Aside0.mk H
   clear H
   go_upto_if 135 with (fail)
   go_cut [] (fun wc => ∃ (kq : Nat), Aside0 (laws_FnConjugatesFound.j1 kq l1 = some r) ∧ Aside0 (kq ≤ kj9) ∧ Aside0 (Below w.heap.size w wc))
   case first =>
    as_aux_lemma =>
    have H := HC47.out
    clear HC47
    by_cases c48 : t343 = true
    rotate_left
    · replace c48 := Bool.eq_false_iff.mpr c48
      subst c48
      rw [if_neg (show ¬ (false = true) by decide)] at H
      have H' := Aside0.mk H
      clear H
      go_wp2
      go_meet
      case rel => exact ⟨_, H', ⟨by have := HJ9.out; first | omega | exact Nat.le_refl _⟩, ⟨by exact lB HB.out⟩⟩
    subst c48
    rw [if_pos rfl] at H
    replace H := Option.bind_eq_some_iff.mp H
    obtain ⟨⟨t353, t354, t355⟩, A490, H⟩ := H
    (try dsimp only at H)
    have A49 := Aside0.mk A490
    clear A490
    replace H := Option.bind_eq_some_iff.mp H
    obtain ⟨⟨t357, t358, t359⟩, A500, H⟩ := H
    (try dsimp only at H)
    have A50 := Aside0.mk A500
    clear A500
    replace H := Option.bind_eq_some_iff.mp H
    obtain ⟨⟨t361, t362, t363⟩, A510, H⟩ := H
    (try dsimp only at H)
    have A51 := Aside0.mk A510
    clear A510
    replace H := Option.bind_eq_some_iff.mp H
    obtain ⟨⟨t364, t365, t366⟩, A520, H⟩ := H
    (try dsimp only at H)
    have A52 := Aside0.mk A520
    clear A520
    by_cases c53 : (t340.length : Int) > t337
    · rw [if_pos c53] at H
      have c53b0 : decide (t337 < (t340.length : Int)) = true := decide_eq_true c53
      clear c53
      (first | rw [c53b0] | (simp only [i64_w, i32_w]; rw [c53b0]) | skip)
      exact absurd ((Option.some.inj H).trans HRT.out) (by decide)
    rw [if_neg c53] at H
    have c53b0 : decide (t337 < (t340.length : Int)) = false := decide_eq_false c53
    clear c53
    (first | rw [c53b0] | (simp only [i64_w, i32_w]; rw [c53b0]) | skip)
    by_cases c54 : t355 = true
    rotate_left
    · replace c54 := Bool.eq_false_iff.mpr c54
      subst c54
      rw [if_neg (show ¬ (false = true) by decide)] at H
      exact absurd ((Option.some.inj H).trans HRT.out) (by decide)
    subst c54
    rw [if_pos rfl] at H
    by_cases c55 : t359 = true
    rotate_left
    · replace c55 := Bool.eq_false_iff.mpr c55
      subst c55
      rw [if_neg (show ¬ (false = true) by decide)] at H
      exact absurd ((Option.some.inj H).trans HRT.out) (by decide)
    subst c55
    rw [if_pos rfl] at H
    replace H := Option.bind_eq_some_iff.mp H
    obtain ⟨⟨t367, t368⟩, A560, H⟩ := H
    (try dsimp only at H)
    have A56 := Aside0.mk A560
    clear A560
    by_cases c57 : (!(t357.toList == t367.toList) || (!(t358.toList == t368.toList))) = true
    · rw [if_pos c57] at H
      have c57b0 : (!(t357.toList == t367.toList) || (!(t358.toList == t368.toList))) = true := c57
      clear c57
      exact absurd ((Option.some.inj H).trans HRT.out) (by decide)
    rw [if_neg c57] at H
    have c57b0 : (!(t357.toList == t367.toList) || (!(t358.toList == t368.toList))) = false := by simpa using c57
    clear c57
    by_cases c58 : t363 = true
    rotate_left
    · replace c58 := Bool.eq_false_iff.mpr c58
      subst c58
      rw [if_neg (show ¬ (false = true) by decide)] at H
      exact absurd ((Option.some.inj H).trans HRT.out) (by decide)
    subst c58
    rw [if_pos rfl] at H
    by_cases c59 : t366 = true
    rotate_left
    · replace c59 := Bool.eq_false_iff.mpr c59
      subst c59
      rw [if_neg (show ¬ (false = true) by decide)] at H
      exact absurd ((Option.some.inj H).trans HRT.out) (by decide)
    subst c59
    rw [if_pos rfl] at H
    by_cases c60 : t361 = t364
    rotate_left
    · rw [if_neg c60] at H
      have c60b0 : (t361 == t364) = false := beq_eq_false_iff_ne.mpr c60
      have c60b1 : (t361 != t364) = true := bne_iff_ne.mpr c60
      exact absurd ((Option.some.inj H).trans HRT.out) (by decide)
    rw [if_pos c60] at H
    have c60b0 : (t361 == t364) = true := beq_iff_eq.mpr c60
    have c60b1 : (t361 != t364) = false := bne_eq_false_iff_eq.mpr c60
    clear c60
    by_cases c61 : t362 = t365
    rotate_left
    · rw [if_neg c61] at H
      have c61b0 : (t362 == t365) = false := beq_eq_false_iff_ne.mpr c61
      have c61b1 : (t362 != t365) = true := bne_iff_ne.mpr c61
      exact absurd ((Option.some.inj H).trans HRT.out) (by decide)
    rw [if_pos c61] at H
    have c61b0 : (t362 == t365) = true := beq_iff_eq.mpr c61
    have c61b1 : (t362 != t365) = false := bne_eq_false_iff_eq.mpr c61
    clear c61
    have H' := Aside0.mk H
    clear H
    obtain ⟨Ao62, co62, eo62⟩ := Kd.R_slice HO_8.out
    subst eo62
    try go_wp2_with (first | ((with_reducible refine gate_callee (f := 11) rfl ?_); refine goesL_ (some 138) rfl rfl Tryz.func11 (by kernel_rfl) rfl #[.slice Ao62 t340.length co62] rfl lm ?_; (with_reducible refine (impl_PairOfWord.calls _ _ t340 t353 t354 true _ ?side1 ?side2 A49.out).mono ?_); (case side1 => repeat (first | exact (Kd.R_reads' HO_8.out).2.2 | (with_reducible refine Kd.C_alloc ?_ _) | (with_reducible refine Kd.C_drewN ?_ _) | (with_reducible refine Kd.C_drew ?_))); (case side2 => exact (Kd.R_reads' HO_8.out).2.1); rintro e w63 ⟨rfl, hb⟩; refine ⟨_, rfl, ?_⟩; have n0_ := Aside0.mk (Kd.R_below (by (with_reducible repeat (first | apply Kd.R_alloc | apply Kd.R_drewN | apply Kd.R_drew)); exact HO_8.out) hb); have n1_ := Aside0.mk (blk_below (lb BK338.out) hb); have n2_ := Aside0.mk (blk_below (lb BK339.out) hb); have n3_ := Aside0.mk (below_step (lB HB.out) hb); clear HO_8 BK338 BK339 HB; have HO_8 := n0_; have BK338 := n1_; have BK339 := n2_; have HB := n3_; clear n0_ n1_ n2_ n3_; (try clear hb); (try clear hb2); (try clear hk); (try clear hi)) | ((with_reducible refine gate_dst (N := 16) rfl ?_); refine box_event ?hg (N := 16) ?hd (cs := #[.string (⟨#[]⟩ : ByteArray), .string (⟨#[]⟩ : ByteArray)]) (t := 25) ?hr ?_; (case hd => rfl); (case hg => rfl); (case hr => exact lr); intro gb356 hg w64 hbox hb; have n0_ := Aside0.mk (Kd.R_below (by (with_reducible repeat (first | apply Kd.R_alloc | apply Kd.R_drewN | apply Kd.R_drew)); exact HO_8.out) hb); have n1_ := Aside0.mk (blk_below (lb BK338.out) hb); have n2_ := Aside0.mk (blk_below (lb BK339.out) hb); have n3_ := Aside0.mk (below_step (lB HB.out) hb); have n4_ := Aside0.mk (hbox); have n5_ := gw hg (lB HB.out); have n6_ := gw hg (lB HB.out); have n7_ := na hg (lb BK338.out); have n8_ := nz hg (lb BK338.out); have n9_ := na hg (lb BK339.out); have n10_ := nz hg (lb BK339.out); clear HO_8 BK338 BK339 HB; have HO_8 := n0_; have BK338 := n1_; have BK339 := n2_; have HB := n3_; have BK356 := n4_; have GW356 := n5_; have GE356 := n6_; have NB338_356 := n7_; have NB356_338 := n8_; have NB339_356 := n9_; have NB356_339 := n10_; clear n0_ n1_ n2_ n3_ n4_ n5_ n6_ n7_ n8_ n9_ n10_; clear hb hbox hg; have hnb65 := NB356_338.out; have hnc65 := NB338_356.out; have hnb66 := NB356_339.out; have hnc66 := NB339_356.out; have hcz67_0 : w64.cell? ⟨gb356, 0, none⟩ = some (.string (⟨#[]⟩ : ByteArray)) := (blk_cell BK356.out 0).trans rfl; have hcz67_1 : w64.cell? ⟨gb356, 1, none⟩ = some (.string (⟨#[]⟩ : ByteArray)) := (blk_cell BK356.out 1).trans rfl; have hfz67_0 := blk_frozen BK356.out 0; have hfz67_1 := blk_frozen BK356.out 1; have hnb68 := NB338_339.out; have hnc68 := NB339_338.out; have hcz69_0 : w64.cell? ⟨gb338, 0, none⟩ = some (.string t333) := (blk_cell BK338.out 0).trans rfl; have hcz69_1 : w64.cell? ⟨gb338, 1, none⟩ = some (.string t334) := (blk_cell BK338.out 1).trans rfl; have hfz69_0 := blk_frozen BK338.out 0; have hfz69_1 := blk_frozen BK338.out 1) | ((with_reducible refine gate_callee (f := 12) rfl ?_); refine goesL_ (some 144) rfl rfl Tryz.func12 (by kernel_rfl) rfl #[.agg #[.string t333, .string t334], .agg #[.string t353, .string t354]] rfl lm ?_; (with_reducible refine (impl_ConjugatePair.calls t333 t334 t353 t354 t357 t358 true _ A50.out).mono ?_); rintro e w70 ⟨rfl, hb⟩; refine ⟨_, rfl, ?_⟩; have n0_ := Aside0.mk (Kd.R_below (by (with_reducible repeat (first | apply Kd.R_alloc | apply Kd.R_drewN | apply Kd.R_drew)); exact (Kd.R_mono (Kd.R_far (p := ⟨gb356, 1, none⟩) (Kd.R_far (p := ⟨gb356, 0, none⟩) (Kd.R_types HO_8.out BK356.out (by decide)) (fun _ hk => hk.2) (.string t353)) (fun _ hk => hk.2) (.string t354)) (fun _ h_ => h_.1))) hb); have n1_ := Aside0.mk (blk_below (g := gb338) (o := .cells #[.string t333, .string t334] 25 (0, 0)) (by (with_reducible repeat (first | refine blk_drewN ?_ _ | refine blk_drew ?_ | refine blk_alloc ?_ _)); refine blk_far ?_ NB338_356.out _; (with_reducible repeat (first | refine blk_drewN ?_ _ | refine blk_drew ?_ | refine blk_alloc ?_ _)); refine blk_far ?_ NB338_356.out _; exact lb BK338.out) hb); have n2_ := Aside0.mk (blk_below (g := gb339) (o := .cells #[.string t335, .string t336] 25 (0, 0)) (by (with_reducible repeat (first | refine blk_drewN ?_ _ | refine blk_drew ?_ | refine blk_alloc ?_ _)); refine blk_far ?_ NB339_356.out _; (with_reducible repeat (first | refine blk_drewN ?_ _ | refine blk_drew ?_ | refine blk_alloc ?_ _)); refine blk_far ?_ NB339_356.out _; exact lb BK339.out) hb); have n3_ := Aside0.mk (blk_below (g := gb356) (o := .cells #[.string t353, .string t354] 25 (0, 0)) (by (with_reducible repeat (first | refine blk_drewN ?_ _ | refine blk_drew ?_ | refine blk_alloc ?_ _)); refine blk_put (cs := #[.string t353, .string (⟨#[]⟩ : ByteArray)]) ?_ 1 _ rfl; (with_reducible repeat (first | refine blk_drewN ?_ _ | refine blk_drew ?_ | refine blk_alloc ?_ _)); refine blk_put (cs := #[.string (⟨#[]⟩ : ByteArray), .string (⟨#[]⟩ : ByteArray)]) ?_ 0 _ rfl; exact lb BK356.out) hb); have n4_ := Aside0.mk (below_step (lB HB.out) hb); clear HO_8 BK338 BK339 BK356 HB; have HO_8 := n0_; have BK338 := n1_; have BK339 := n2_; have BK356 := n3_; have HB := n4_; clear n0_ n1_ n2_ n3_ n4_; (try clear hb); (try clear hb2); (try clear hk); (try clear hi)) | ((with_reducible refine gate_dst (N := 18) rfl ?_); refine box_event ?hg (N := 18) ?hd (cs := #[.string (⟨#[]⟩ : ByteArray), .string (⟨#[]⟩ : ByteArray)]) (t := 25) ?hr ?_; (case hd => rfl); (case hg => rfl); (case hr => exact lr); intro gb360 hg w71 hbox hb; have n0_ := Aside0.mk (Kd.R_below (by (with_reducible repeat (first | apply Kd.R_alloc | apply Kd.R_drewN | apply Kd.R_drew)); exact HO_8.out) hb); have n1_ := Aside0.mk (blk_below (lb BK338.out) hb); have n2_ := Aside0.mk (blk_below (lb BK339.out) hb); have n3_ := Aside0.mk (blk_below (lb BK356.out) hb); have n4_ := Aside0.mk (below_step (lB HB.out) hb); have n5_ := Aside0.mk (hbox); have n6_ := gw hg (lB HB.out); have n7_ := gw hg (lB HB.out); have n8_ := na hg (lb BK338.out); have n9_ := nz hg (lb BK338.out); have n10_ := na hg (lb BK339.out); have n11_ := nz hg (lb BK339.out); have n12_ := na hg (lb BK356.out); have n13_ := nz hg (lb BK356.out); clear HO_8 BK338 BK339 BK356 HB; have HO_8 := n0_; have BK338 := n1_; have BK339 := n2_; have BK356 := n3_; have HB := n4_; have BK360 := n5_; have GW360 := n6_; have GE360 := n7_; have NB338_360 := n8_; have NB360_338 := n9_; have NB339_360 := n10_; have NB360_339 := n11_; have NB356_360 := n12_; have NB360_356 := n13_; clear n0_ n1_ n2_ n3_ n4_ n5_ n6_ n7_ n8_ n9_ n10_ n11_ n12_ n13_; clear hb hbox hg; have hnb72 := NB360_338.out; have hnc72 := NB338_360.out; have hnb73 := NB360_339.out; have hnc73 := NB339_360.out; have hnb74 := NB360_356.out; have hnc74 := NB356_360.out; have hcz75_0 : w71.cell? ⟨gb360, 0, none⟩ = some (.string (⟨#[]⟩ : ByteArray)) := (blk_cell BK360.out 0).trans rfl; have hcz75_1 : w71.cell? ⟨gb360, 1, none⟩ = some (.string (⟨#[]⟩ : ByteArray)) := (blk_cell BK360.out 1).trans rfl; have hfz75_0 := blk_frozen BK360.out 0; have hfz75_1 := blk_frozen BK360.out 1; have hcz76_0 : w71.cell? ⟨gb338, 0, none⟩ = some (.string t333) := (blk_cell BK338.out 0).trans rfl; have hcz76_1 : w71.cell? ⟨gb338, 1, none⟩ = some (.string t334) := (blk_cell BK338.out 1).trans rfl; have hfz76_0 := blk_frozen BK338.out 0; have hfz76_1 := blk_frozen BK338.out 1) | ((with_reducible refine gate_callee (f := 13) rfl ?_); refine goesL_ (some 149) rfl rfl Tryz.func13 (by kernel_rfl) rfl #[.agg #[.string t333, .string t334]] rfl lm ?_; (with_reducible refine (impl_SumsOfPair.calls t333 t334 t361 t362 true _ A51.out).mono ?_); rintro e w77 ⟨rfl, hb⟩; refine ⟨_, rfl, ?_⟩; have n0_ := Aside0.mk (Kd.R_below (by (with_reducible repeat (first | apply Kd.R_alloc | apply Kd.R_drewN | apply Kd.R_drew)); exact (Kd.R_mono (Kd.R_far (p := ⟨gb360, 1, none⟩) (Kd.R_far (p := ⟨gb360, 0, none⟩) (Kd.R_types HO_8.out BK360.out (by decide)) (fun _ hk => hk.2) (.string t357)) (fun _ hk => hk.2) (.string t358)) (fun _ h_ => h_.1))) hb); have n1_ := Aside0.mk (blk_below (g := gb338) (o := .cells #[.string t333, .string t334] 25 (0, 0)) (by (with_reducible repeat (first | refine blk_drewN ?_ _ | refine blk_drew ?_ | refine blk_alloc ?_ _)); refine blk_far ?_ NB338_360.out _; (with_reducible repeat (first | refine blk_drewN ?_ _ | refine blk_drew ?_ | refine blk_alloc ?_ _)); refine blk_far ?_ NB338_360.out _; exact lb BK338.out) hb); have n2_ := Aside0.mk (blk_below (g := gb339) (o := .cells #[.string t335, .string t336] 25 (0, 0)) (by (with_reducible repeat (first | refine blk_drewN ?_ _ | refine blk_drew ?_ | refine blk_alloc ?_ _)); refine blk_far ?_ NB339_360.out _; (with_reducible repeat (first | refine blk_drewN ?_ _ | refine blk_drew ?_ | refine blk_alloc ?_ _)); refine blk_far ?_ NB339_360.out _; exact lb BK339.out) hb); have n3_ := Aside0.mk (blk_below (g := gb356) (o := .cells #[.string t353, .string t354] 25 (0, 0)) (by (with_reducible repeat (first | refine blk_drewN ?_ _ | refine blk_drew ?_ | refine blk_alloc ?_ _)); refine blk_far ?_ NB356_360.out _; (with_reducible repeat (first | refine blk_drewN ?_ _ | refine blk_drew ?_ | refine blk_alloc ?_ _)); refine blk_far ?_ NB356_360.out _; exact lb BK356.out) hb); have n4_ := Aside0.mk (blk_below (g := gb360) (o := .cells #[.string t357, .string t358] 25 (0, 0)) (by (with_reducible repeat (first | refine blk_drewN ?_ _ | refine blk_drew ?_ | refine blk_alloc ?_ _)); refine blk_put (cs := #[.string t357, .string (⟨#[]⟩ : ByteArray)]) ?_ 1 _ rfl; (with_reducible repeat (first | refine blk_drewN ?_ _ | refine blk_drew ?_ | refine blk_alloc ?_ _)); refine blk_put (cs := #[.string (⟨#[]⟩ : ByteArray), .string (⟨#[]⟩ : ByteArray)]) ?_ 0 _ rfl; exact lb BK360.out) hb); have n5_ := Aside0.mk (below_step (lB HB.out) hb); clear HO_8 BK338 BK339 BK356 BK360 HB; have HO_8 := n0_; have BK338 := n1_; have BK339 := n2_; have BK356 := n3_; have BK360 := n4_; have HB := n5_; clear n0_ n1_ n2_ n3_ n4_ n5_; (try clear hb); (try clear hb2); (try clear hk); (try clear hi); have hcz78_0 : w77.cell? ⟨gb339, 0, none⟩ = some (.string t335) := (blk_cell BK339.out 0).trans rfl; have hcz78_1 : w77.cell? ⟨gb339, 1, none⟩ = some (.string t336) := (blk_cell BK339.out 1).trans rfl; have hfz78_0 := blk_frozen BK339.out 0; have hfz78_1 := blk_frozen BK339.out 1) | ((with_reducible refine gate_callee (f := 13) rfl ?_); refine goesL_ (some 155) rfl rfl Tryz.func13 (by kernel_rfl) rfl #[.agg #[.string t335, .string t336]] rfl lm ?_; (with_reducible refine (impl_SumsOfPair.calls t335 t336 t364 t365 true _ A52.out).mono ?_); rintro e w79 ⟨rfl, hb⟩; refine ⟨_, rfl, ?_⟩; have n0_ := Aside0.mk (Kd.R_below (by (with_reducible repeat (first | apply Kd.R_alloc | apply Kd.R_drewN | apply Kd.R_drew)); exact HO_8.out) hb); have n1_ := Aside0.mk (blk_below (lb BK338.out) hb); have n2_ := Aside0.mk (blk_below (lb BK339.out) hb); have n3_ := Aside0.mk (blk_below (lb BK356.out) hb); have n4_ := Aside0.mk (blk_below (lb BK360.out) hb); have n5_ := Aside0.mk (below_step (lB HB.out) hb); clear HO_8 BK338 BK339 BK356 BK360 HB; have HO_8 := n0_; have BK338 := n1_; have BK339 := n2_; have BK356 := n3_; have BK360 := n4_; have HB := n5_; clear n0_ n1_ n2_ n3_ n4_ n5_; (try clear hb); (try clear hb2); (try clear hk); (try clear hi)))
    have n0_ := Aside0.mk (Kd.R_drew HO_8.out)
    have n1_ := Aside0.mk (blk_drew BK338.out)
    have n2_ := Aside0.mk (blk_drew BK339.out)
    have n3_ := Aside0.mk (blk_drew BK356.out)
    have n4_ := Aside0.mk (blk_drew BK360.out)
    have n5_ := Aside0.mk (below_drew1 HB.out)
    clear HO_8
    clear BK338
    clear BK339
    clear BK356
    clear BK360
    clear HB
    have HO_8 := n0_
    have BK338 := n1_
    have BK339 := n2_
    have BK356 := n3_
    have BK360 := n4_
    have HB := n5_
    clear n0_ n1_ n2_ n3_ n4_ n5_
    refine start_ (n := 36) (S := fun w' => w'.cell? ⟨gb360, 0, none⟩ = some (.string t357) ∧ w'.cell? ⟨gb360, 1, none⟩ = some (.string t358) ∧ w'.cell? ⟨gb339, 0, none⟩ = some (.string t335) ∧ w'.cell? ⟨gb339, 1, none⟩ = some (.string t336)) (ds := []) #[false, false, false, false, false, false, false, false, false, false, false, false, false, false, false, false, false, false, false, false, false, false, false, false, false, false, false, false, false, false, false, false, false, false, false, false] (by kernel_rfl) rfl rfl ⟨(blk_cell BK360.out 0).trans rfl, (blk_cell BK360.out 1).trans rfl, (blk_cell BK339.out 0).trans rfl, (blk_cell BK339.out 1).trans rfl⟩ (fun hHeld => ?_); refine with_tabW laws_FnConjugatesFound.tab15 laws_FnConjugatesFound.bits15 (fun HT_ HW_ => ?_)
    generalize w79.drew = w80 at HO_8 BK338 BK339 BK356 BK360 HB hHeld ⊢
    refine pure_ (i := 0) (N := some 159) (v := ?_) (a' := ?_) #[true, false, false, false, false, false, false, false, false, false, false, false, false, false, false, false, false, false, false, false, false, false, false, false, false, false, false, false, false, false, false, false, false, false, false, false] rfl rfl (any_of HT_.out (by kernel_rfl)) (fun _ _ _ h => h) (Or.inl ⟨by rfl, ?_⟩) ?_ ?_
    rotate_left
    · intro w'
      go_simp
      with_reducible rfl
    rotate_left
    · simp only [Act.put, List.setIfInBounds_toArray, List.set_cons_zero, List.set_cons_succ, i64_w, i32_w]
      rfl
    refine pure_ (i := 1) (N := some 160) (v := ?_) (a' := ?_) #[true, true, false, false, false, false, false, false, false, false, false, false, false, false, false, false, false, false, false, false, false, false, false, false, false, false, false, false, false, false, false, false, false, false, false, false] rfl rfl (any_of HT_.out (by kernel_rfl)) (fun _ _ _ h => h) (Or.inl ⟨by rfl, ?_⟩) ?_ ?_
    rotate_left
    · intro w'
      go_simp
      with_reducible rfl
    rotate_left
    · simp only [Act.put, List.setIfInBounds_toArray, List.set_cons_zero, List.set_cons_succ, i64_w, i32_w]
      rfl
    refine pure_ (i := 2) (N := some 161) (v := ?_) (a' := ?_) #[true, true, true, false, false, false, false, false, false, false, false, false, false, false, false, false, false, false, false, false, false, false, false, false, false, false, false, false, false, false, false, false, false, false, false, false] rfl rfl (any_of HT_.out (by kernel_rfl)) (fun _ _ _ h => h) (Or.inl ⟨by rfl, ?_⟩) ?_ ?_
    rotate_left
    · intro w'
      go_simp
      with_reducible rfl
    rotate_left
    · simp only [Act.put, List.setIfInBounds_toArray, List.set_cons_zero, List.set_cons_succ, i64_w, i32_w]
      rfl
    refine pure_ (i := 3) (N := some 162) (v := ?_) (a' := ?_) #[true, true, true, true, false, false, false, false, false, false, false, false, false, false, false, false, false, false, false, false, false, false, false, false, false, false, false, false, false, false, false, false, false, false, false, false] rfl rfl (any_of HT_.out (by kernel_rfl)) (fun _ _ _ h => h) (Or.inl ⟨by rfl, ?_⟩) ?_ ?_
    rotate_left
    · intro w'
      go_simp
      with_reducible rfl
    rotate_left
    · simp only [Act.put, List.setIfInBounds_toArray, List.set_cons_zero, List.set_cons_succ, i64_w, i32_w]
      rfl
    refine pure_ (i := 4) (N := some 163) (v := ?_) (a' := ?_) #[true, true, true, true, true, false, false, false, false, false, false, false, false, false, false, false, false, false, false, false, false, false, false, false, false, false, false, false, false, false, false, false, false, false, false, false] rfl rfl (any_of HT_.out (by kernel_rfl)) (fun _ _ _ h => h) (Or.inl ⟨by rfl, ?_⟩) ?_ ?_
    rotate_left
    · intro w'
      go_simp
      with_reducible rfl
    rotate_left
    · simp only [Act.put, List.setIfInBounds_toArray, List.set_cons_zero, List.set_cons_succ, i64_w, i32_w]
      rfl
    refine pure_ (i := 5) (N := some 164) (v := ?_) (a' := ?_) #[true, true, true, true, true, true, false, false, false, false, false, false, false, false, false, false, false, false, false, false, false, false, false, false, false, false, false, false, false, false, false, false, false, false, false, false] rfl rfl (any_of HT_.out (by kernel_rfl)) (fun _ _ _ h => h) (Or.inl ⟨by rfl, ?_⟩) ?_ ?_
    rotate_left
    · intro w'
      go_simp
      with_reducible rfl
    rotate_left
    · simp only [Act.put, List.setIfInBounds_toArray, List.set_cons_zero, List.set_cons_succ, i64_w, i32_w]
      rfl
    refine pure_ (i := 6) (N := some 165) (v := ?_) (a' := ?_) #[true, true, true, true, true, true, true, false, false, false, false, false, false, false, false, false, false, false, false, false, false, false, false, false, false, false, false, false, false, false, false, false, false, false, false, false] rfl rfl (any_of HT_.out (by kernel_rfl)) (fun _ _ _ h => h) (Or.inl ⟨by rfl, ?_⟩) ?_ ?_
    rotate_left
    · intro w'
      go_simp
      with_reducible rfl
    rotate_left
    · simp only [Act.put, List.setIfInBounds_toArray, List.set_cons_zero, List.set_cons_succ, i64_w, i32_w]
      rfl
    refine pure_ (i := 7) (N := some 166) (v := ?_) (a' := ?_) #[true, true, true, true, true, true, true, true, false, false, false, false, false, false, false, false, false, false, false, false, false, false, false, false, false, false, false, false, false, false, false, false, false, false, false, false] rfl rfl (any_of HT_.out (by kernel_rfl)) (fun _ _ _ h => h) (Or.inl ⟨by rfl, ?_⟩) ?_ ?_
    rotate_left
    · intro w'
      go_simp
      with_reducible rfl
    rotate_left
    · simp only [Act.put, List.setIfInBounds_toArray, List.set_cons_zero, List.set_cons_succ, i64_w, i32_w]
      rfl
    refine pure_ (i := 8) (N := some 167) (v := ?_) (a' := ?_) #[true, true, true, true, true, true, true, true, true, false, false, false, false, false, false, false, false, false, false, false, false, false, false, false, false, false, false, false, false, false, false, false, false, false, false, false] rfl rfl (any_of HT_.out (by kernel_rfl)) (fun _ _ _ h => h) (Or.inl ⟨by rfl, ?_⟩) ?_ ?_
    rotate_left
    · intro w'
      go_simp
      with_reducible rfl
    rotate_left
    · simp only [Act.put, List.setIfInBounds_toArray, List.set_cons_zero, List.set_cons_succ, i64_w, i32_w]
      rfl
    refine pure_ (i := 9) (N := some 168) (v := ?_) (a' := ?_) #[true, true, true, true, true, true, true, true, true, true, false, false, false, false, false, false, false, false, false, false, false, false, false, false, false, false, false, false, false, false, false, false, false, false, false, false] rfl rfl (any_of HT_.out (by kernel_rfl)) (fun _ _ _ h => h) (Or.inl ⟨by rfl, ?_⟩) ?_ ?_
    rotate_left
    · intro w'
      go_simp
      with_reducible rfl
    rotate_left
    · simp only [Act.put, List.setIfInBounds_toArray, List.set_cons_zero, List.set_cons_succ, i64_w, i32_w]
      rfl
    refine pure_ (i := 10) (N := some 169) (v := ?_) (a' := ?_) #[true, true, true, true, true, true, true, true, true, true, true, false, false, false, false, false, false, false, false, false, false, false, false, false, false, false, false, false, false, false, false, false, false, false, false, false] rfl rfl (any_of HT_.out (by kernel_rfl)) (fun _ _ _ h => h) (Or.inl ⟨by rfl, ?_⟩) ?_ ?_
    rotate_left
    · intro w'
      go_simp
      with_reducible rfl
    rotate_left
    · simp only [Act.put, List.setIfInBounds_toArray, List.set_cons_zero, List.set_cons_succ, i64_w, i32_w]
      rfl
    refine pure_ (i := 11) (N := some 170) (v := ?_) (a' := ?_) #[true, true, true, true, true, true, true, true, true, true, true, true, false, false, false, false, false, false, false, false, false, false, false, false, false, false, false, false, false, false, false, false, false, false, false, false] rfl rfl (any_of HT_.out (by kernel_rfl)) (fun _ _ _ h => h) (Or.inl ⟨by rfl, ?_⟩) ?_ ?_
    rotate_left
    · intro w'
      go_simp
      with_reducible rfl
    rotate_left
    · simp only [Act.put, List.setIfInBounds_toArray, List.set_cons_zero, List.set_cons_succ, i64_w, i32_w]
      rfl
    refine pure_ (i := 12) (N := some 171) (v := ?_) (a' := ?_) #[true, true, true, true, true, true, true, true, true, true, true, true, true, false, false, false, false, false, false, false, false, false, false, false, false, false, false, false, false, false, false, false, false, false, false, false] rfl rfl (any_of HT_.out (by kernel_rfl)) (fun _ _ _ h => h) (Or.inl ⟨by rfl, ?_⟩) ?_ ?_
    rotate_left
    · intro w'
      go_simp
      with_reducible rfl
    rotate_left
    · simp only [Act.put, List.setIfInBounds_toArray, List.set_cons_zero, List.set_cons_succ, i64_w, i32_w]
      rfl
    refine take_ (i := 13) (N := some 172) (v := ?_) (a' := ?_) #[true, true, true, true, true, true, true, true, true, true, true, true, true, true, false, false, false, false, false, false, false, false, false, false, false, false, false, false, false, false, false, false, false, false, false, false] rfl rfl (take_ofW HT_.out HW_.out (by kernel_rfl)) (fun _ _ _ h => h) (Or.inl ⟨by rfl, ?_⟩) hHeld ?_ ?_
    rotate_left
    · rintro w' ⟨s0, s1, s2, s3⟩
      go_simp
      with_reducible rfl
    rotate_left
    · simp only [Act.put, List.setIfInBounds_toArray, List.set_cons_zero, List.set_cons_succ, i64_w, i32_w]
      rfl
    refine take_ (i := 14) (N := some 173) (v := ?_) (a' := ?_) #[true, true, true, true, true, true, true, true, true, true, true, true, true, true, true, false, false, false, false, false, false, false, false, false, false, false, false, false, false, false, false, false, false, false, false, false] rfl rfl (take_ofW HT_.out HW_.out (by kernel_rfl)) (fun _ _ _ h => h) (Or.inl ⟨by rfl, ?_⟩) hHeld ?_ ?_
    rotate_left
    · rintro w' ⟨s0, s1, s2, s3⟩
      go_simp
      with_reducible rfl
    rotate_left
    · simp only [Act.put, List.setIfInBounds_toArray, List.set_cons_zero, List.set_cons_succ, i64_w, i32_w]
      rfl
    refine one_ (i := 15) (N := some 174) #[true, true, true, true, true, true, true, true, true, true, true, true, true, true, true, true, false, false, false, false, false, false, false, false, false, false, false, false, false, false, false, false, false, false, false, false] rfl rfl (one_of HT_.out (by kernel_rfl)) (by decide) (fun K hK => ?_)
    refine goes_ Tryz.func14 (by kernel_rfl) rfl #[.agg #[.string t335, .string t336]] (by rfl) rfl rfl lm ?_
    with_reducible refine (laws_nReduced.calls t335 t336 t367 t368 _ A56.out).mono ?_
    rintro e w81 ⟨rfl, hb⟩
    refine ⟨_, rfl, ?_⟩
    have n0_ := Aside0.mk (Kd.R_below (by (with_reducible repeat (first | apply Kd.R_alloc | apply Kd.R_drewN | apply Kd.R_drew)); exact HO_8.out) hb)
    have n1_ := Aside0.mk (blk_below (lb BK338.out) hb)
    have n2_ := Aside0.mk (blk_below (lb BK339.out) hb)
    have n3_ := Aside0.mk (blk_below (lb BK356.out) hb)
    have n4_ := Aside0.mk (blk_below (lb BK360.out) hb)
    have n5_ := Aside0.mk (below_step (lB HB.out) hb)
    clear HO_8
    clear BK338
    clear BK339
    clear BK356
    clear BK360
    clear HB
    have HO_8 := n0_
    have BK338 := n1_
    have BK339 := n2_
    have BK356 := n3_
    have BK360 := n4_
    have HB := n5_
    clear n0_ n1_ n2_ n3_ n4_ n5_
    (try clear hb); (try clear hb2); (try clear hk); (try clear hi)
    refine hK.out _ _ ⟨(blk_cell BK360.out 0).trans rfl, (blk_cell BK360.out 1).trans rfl, (blk_cell BK339.out 0).trans rfl, (blk_cell BK339.out 1).trans rfl⟩ (fun hHeld => ?_)
    clear hK K
    refine norm_ (a' := ?_) ?_ ?_
    rotate_left
    · show Act.put _ (some 174) _ = _
      simp only [Act.put, List.setIfInBounds_toArray, List.set_cons_zero, List.set_cons_succ, i64_w, i32_w]
      rfl
    refine pure_ (i := 16) (N := some 175) (v := ?_) (a' := ?_) #[true, true, true, true, true, true, true, true, true, true, true, true, true, true, true, true, true, false, false, false, false, false, false, false, false, false, false, false, false, false, false, false, false, false, false, false] rfl rfl (any_of HT_.out (by kernel_rfl)) (fun _ _ _ h => h) (Or.inl ⟨by rfl, ?_⟩) ?_ ?_
    rotate_left
    · intro w'
      go_simp
      with_reducible rfl
    rotate_left
    · simp only [Act.put, List.setIfInBounds_toArray, List.set_cons_zero, List.set_cons_succ, i64_w, i32_w]
      rfl
    refine pure_ (i := 17) (N := some 176) (v := ?_) (a' := ?_) #[true, true, true, true, true, true, true, true, true, true, true, true, true, true, true, true, true, true, false, false, false, false, false, false, false, false, false, false, false, false, false, false, false, false, false, false] rfl rfl (any_of HT_.out (by kernel_rfl)) (fun _ _ _ h => h) (Or.inl ⟨by rfl, ?_⟩) ?_ ?_
    rotate_left
    · intro w'
      go_simp
      with_reducible rfl
    rotate_left
    · simp only [Act.put, List.setIfInBounds_toArray, List.set_cons_zero, List.set_cons_succ, i64_w, i32_w]
      rfl
    refine pure_ (i := 18) (N := some 177) (v := ?_) (a' := ?_) #[true, true, true, true, true, true, true, true, true, true, true, true, true, true, true, true, true, true, true, false, false, false, false, false, false, false, false, false, false, false, false, false, false, false, false, false] rfl rfl (any_of HT_.out (by kernel_rfl)) (fun _ _ _ h => h) (Or.inl ⟨by rfl, ?_⟩) ?_ ?_
    rotate_left
    · intro w'
      go_simp
      with_reducible rfl
    rotate_left
    · simp only [Act.put, List.setIfInBounds_toArray, List.set_cons_zero, List.set_cons_succ, i64_w, i32_w]
      rfl
    refine pure_ (i := 19) (N := some 178) (v := ?_) (a' := ?_) #[true, true, true, true, true, true, true, true, true, true, true, true, true, true, true, true, true, true, true, true, false, false, false, false, false, false, false, false, false, false, false, false, false, false, false, false] rfl rfl (any_of HT_.out (by kernel_rfl)) (fun _ _ _ h => h) (Or.inl ⟨by rfl, ?_⟩) ?_ ?_
    rotate_left
    · intro w'
      go_simp
      with_reducible rfl
    rotate_left
    · simp only [Act.put, List.setIfInBounds_toArray, List.set_cons_zero, List.set_cons_succ, i64_w, i32_w]
      rfl
    refine pure_ (i := 20) (N := some 179) (v := ?_) (a' := ?_) #[true, true, true, true, true, true, true, true, true, true, true, true, true, true, true, true, true, true, true, true, true, false, false, false, false, false, false, false, false, false, false, false, false, false, false, false] rfl rfl (any_of HT_.out (by kernel_rfl)) (fun _ _ _ h => h) (Or.inl ⟨by rfl, ?_⟩) ?_ ?_
    rotate_left
    · intro w'
      go_simp
      with_reducible rfl
    rotate_left
    · simp only [Act.put, List.setIfInBounds_toArray, List.set_cons_zero, List.set_cons_succ, i64_w, i32_w]
      rfl
    refine pure_ (i := 21) (N := some 180) (v := ?_) (a' := ?_) #[true, true, true, true, true, true, true, true, true, true, true, true, true, true, true, true, true, true, true, true, true, true, false, false, false, false, false, false, false, false, false, false, false, false, false, false] rfl rfl (any_of HT_.out (by kernel_rfl)) (fun _ _ _ h => h) (Or.inl ⟨by rfl, ?_⟩) ?_ ?_
    rotate_left
    · intro w'
      go_simp
      with_reducible rfl
    rotate_left
    · simp only [Act.put, List.setIfInBounds_toArray, List.set_cons_zero, List.set_cons_succ, i64_w, i32_w]
      rfl
    refine pure_ (i := 22) (N := some 181) (v := ?_) (a' := ?_) #[true, true, true, true, true, true, true, true, true, true, true, true, true, true, true, true, true, true, true, true, true, true, true, false, false, false, false, false, false, false, false, false, false, false, false, false] rfl rfl (any_of HT_.out (by kernel_rfl)) (fun _ _ _ h => h) (Or.inl ⟨by rfl, ?_⟩) ?_ ?_
    rotate_left
    · intro w'
      go_simp
      with_reducible rfl
    rotate_left
    · simp only [Act.put, List.setIfInBounds_toArray, List.set_cons_zero, List.set_cons_succ, i64_w, i32_w]
      rfl
    refine pure_ (i := 23) (N := some 182) (v := ?_) (a' := ?_) #[true, true, true, true, true, true, true, true, true, true, true, true, true, true, true, true, true, true, true, true, true, true, true, true, false, false, false, false, false, false, false, false, false, false, false, false] rfl rfl (any_of HT_.out (by kernel_rfl)) (fun _ _ _ h => h) (Or.inl ⟨by rfl, ?_⟩) ?_ ?_
    rotate_left
    · intro w'
      go_simp
      with_reducible rfl
    rotate_left
    · simp only [Act.put, List.setIfInBounds_toArray, List.set_cons_zero, List.set_cons_succ, i64_w, i32_w]
      rfl
    refine pure_ (i := 24) (N := some 183) (v := ?_) (a' := ?_) #[true, true, true, true, true, true, true, true, true, true, true, true, true, true, true, true, true, true, true, true, true, true, true, true, true, false, false, false, false, false, false, false, false, false, false, false] rfl rfl (any_of HT_.out (by kernel_rfl)) (fun _ _ _ h => h) (Or.inl ⟨by rfl, ?_⟩) ?_ ?_
    rotate_left
    · intro w'
      go_simp
      with_reducible rfl
    rotate_left
    · simp only [Act.put, List.setIfInBounds_toArray, List.set_cons_zero, List.set_cons_succ, i64_w, i32_w]
      rfl
    refine pure_ (i := 25) (N := some 184) (v := ?_) (a' := ?_) #[true, true, true, true, true, true, true, true, true, true, true, true, true, true, true, true, true, true, true, true, true, true, true, true, true, true, false, false, false, false, false, false, false, false, false, false] rfl rfl (any_of HT_.out (by kernel_rfl)) (fun _ _ _ h => h) (Or.inl ⟨by rfl, ?_⟩) ?_ ?_
    rotate_left
    · intro w'
      go_simp
      with_reducible rfl
    rotate_left
    · simp only [Act.put, List.setIfInBounds_toArray, List.set_cons_zero, List.set_cons_succ, i64_w, i32_w]
      rfl
    refine pure_ (i := 26) (N := some 185) (v := ?_) (a' := ?_) #[true, true, true, true, true, true, true, true, true, true, true, true, true, true, true, true, true, true, true, true, true, true, true, true, true, true, true, false, false, false, false, false, false, false, false, false] rfl rfl (any_of HT_.out (by kernel_rfl)) (fun _ _ _ h => h) (Or.inl ⟨by rfl, ?_⟩) ?_ ?_
    rotate_left
    · intro w'
      go_simp
      with_reducible rfl
    rotate_left
    · simp only [Act.put, List.setIfInBounds_toArray, List.set_cons_zero, List.set_cons_succ, i64_w, i32_w]
      rfl
    refine pure_ (i := 27) (N := some 186) (v := ?_) (a' := ?_) #[true, true, true, true, true, true, true, true, true, true, true, true, true, true, true, true, true, true, true, true, true, true, true, true, true, true, true, true, false, false, false, false, false, false, false, false] rfl rfl (any_of HT_.out (by kernel_rfl)) (fun _ _ _ h => h) (Or.inl ⟨by rfl, ?_⟩) ?_ ?_
    rotate_left
    · intro w'
      go_simp
      with_reducible rfl
    rotate_left
    · simp only [Act.put, List.setIfInBounds_toArray, List.set_cons_zero, List.set_cons_succ, i64_w, i32_w]
      rfl
    refine pure_ (i := 28) (N := some 187) (v := ?_) (a' := ?_) #[true, true, true, true, true, true, true, true, true, true, true, true, true, true, true, true, true, true, true, true, true, true, true, true, true, true, true, true, true, false, false, false, false, false, false, false] rfl rfl (any_of HT_.out (by kernel_rfl)) (fun _ _ _ h => h) (Or.inl ⟨by rfl, ?_⟩) ?_ ?_
    rotate_left
    · intro w'
      go_simp
      with_reducible rfl
    rotate_left
    · simp only [Act.put, List.setIfInBounds_toArray, List.set_cons_zero, List.set_cons_succ, i64_w, i32_w]
      rfl
    refine pure_ (i := 29) (N := some 188) (v := ?_) (a' := ?_) #[true, true, true, true, true, true, true, true, true, true, true, true, true, true, true, true, true, true, true, true, true, true, true, true, true, true, true, true, true, true, false, false, false, false, false, false] rfl rfl (any_of HT_.out (by kernel_rfl)) (fun _ _ _ h => h) (Or.inl ⟨by rfl, ?_⟩) ?_ ?_
    rotate_left
    · intro w'
      go_simp
      with_reducible rfl
    rotate_left
    · simp only [Act.put, List.setIfInBounds_toArray, List.set_cons_zero, List.set_cons_succ, i64_w, i32_w]
      rfl
    refine pure_ (i := 30) (N := some 189) (v := ?_) (a' := ?_) #[true, true, true, true, true, true, true, true, true, true, true, true, true, true, true, true, true, true, true, true, true, true, true, true, true, true, true, true, true, true, true, false, false, false, false, false] rfl rfl (any_of HT_.out (by kernel_rfl)) (fun _ _ _ h => h) (Or.inl ⟨by rfl, ?_⟩) ?_ ?_
    rotate_left
    · intro w'
      go_simp
      with_reducible rfl
    rotate_left
    · simp only [Act.put, List.setIfInBounds_toArray, List.set_cons_zero, List.set_cons_succ, i64_w, i32_w]
      rfl
    refine pure_ (i := 31) (N := some 190) (v := ?_) (a' := ?_) #[true, true, true, true, true, true, true, true, true, true, true, true, true, true, true, true, true, true, true, true, true, true, true, true, true, true, true, true, true, true, true, true, false, false, false, false] rfl rfl (any_of HT_.out (by kernel_rfl)) (fun _ _ _ h => h) (Or.inl ⟨by rfl, ?_⟩) ?_ ?_
    rotate_left
    · intro w'
      go_simp
      with_reducible rfl
    rotate_left
    · simp only [Act.put, List.setIfInBounds_toArray, List.set_cons_zero, List.set_cons_succ, i64_w, i32_w]
      rfl
    refine pure_ (i := 32) (N := some 191) (v := ?_) (a' := ?_) #[true, true, true, true, true, true, true, true, true, true, true, true, true, true, true, true, true, true, true, true, true, true, true, true, true, true, true, true, true, true, true, true, true, false, false, false] rfl rfl (any_of HT_.out (by kernel_rfl)) (fun _ _ _ h => h) (Or.inl ⟨by rfl, ?_⟩) ?_ ?_
    rotate_left
    · intro w'
      go_simp
      with_reducible rfl
    rotate_left
    · simp only [Act.put, List.setIfInBounds_toArray, List.set_cons_zero, List.set_cons_succ, i64_w, i32_w]
      rfl
    refine pure_ (i := 33) (N := some 192) (v := ?_) (a' := ?_) #[true, true, true, true, true, true, true, true, true, true, true, true, true, true, true, true, true, true, true, true, true, true, true, true, true, true, true, true, true, true, true, true, true, true, false, false] rfl rfl (any_of HT_.out (by kernel_rfl)) (fun _ _ _ h => h) (Or.inl ⟨by rfl, ?_⟩) ?_ ?_
    rotate_left
    · intro w'
      go_simp
      with_reducible rfl
    rotate_left
    · simp only [Act.put, List.setIfInBounds_toArray, List.set_cons_zero, List.set_cons_succ, i64_w, i32_w]
      rfl
    refine pure_ (i := 34) (N := some 193) (v := ?_) (a' := ?_) #[true, true, true, true, true, true, true, true, true, true, true, true, true, true, true, true, true, true, true, true, true, true, true, true, true, true, true, true, true, true, true, true, true, true, true, false] rfl rfl (any_of HT_.out (by kernel_rfl)) (fun _ _ _ h => h) (Or.inl ⟨by rfl, ?_⟩) ?_ ?_
    rotate_left
    · intro w'
      go_simp
      with_reducible rfl
    rotate_left
    · simp only [Act.put, List.setIfInBounds_toArray, List.set_cons_zero, List.set_cons_succ, i64_w, i32_w]
      rfl
    refine pure_ (i := 35) (N := some 194) (v := ?_) (a' := ?_) #[true, true, true, true, true, true, true, true, true, true, true, true, true, true, true, true, true, true, true, true, true, true, true, true, true, true, true, true, true, true, true, true, true, true, true, true] rfl rfl (any_of HT_.out (by kernel_rfl)) (fun _ _ _ h => h) (Or.inl ⟨by rfl, ?_⟩) ?_ ?_
    rotate_left
    · intro w'
      go_simp
      with_reducible rfl
    rotate_left
    · simp only [Act.put, List.setIfInBounds_toArray, List.set_cons_zero, List.set_cons_succ, i64_w, i32_w]
      rfl
    refine done_ (done_of HT_.out (by kernel_rfl)) ?_
    try go_wp2
    go_meet
    case rel => exact ⟨_, H', ⟨by have := HJ9.out; first | omega | exact Nat.le_refl _⟩, ⟨by exact lB HB.out⟩⟩
   case rest =>
   as_aux_lemma =>
   clear HC47
   (try clear c46)
   obtain ⟨kq, HA, HJ46, HB⟩ := hcut
   cases kq with
   | zero => exact absurd HA.out (by simp [laws_FnConjugatesFound.j1])
   | succ kj46 =>
    have H := HA.out
    clear HA
    simp only [laws_FnConjugatesFound.j1] at H
    replace H := Option.bind_eq_some_iff.mp H
    obtain ⟨⟨t369, t370, t371, t372⟩, A820, H⟩ := H
    (try dsimp only at H)
    have A82 := Aside0.mk A820
    clear A820
    replace H := Option.bind_eq_some_iff.mp H
    obtain ⟨⟨t375, t376, t377⟩, A830, H⟩ := H
    (try dsimp only at H)
    have A83 := Aside0.mk A830
    clear A830
    replace H := Option.bind_eq_some_iff.mp H
    obtain ⟨⟨t379, t380, t381⟩, A840, H⟩ := H
    (try dsimp only at H)
    have A84 := Aside0.mk A840
    clear A840
    have HC85 := Aside0.mk H
    clear H
    go_upto_region 20 with (first | ((with_reducible refine gate_callee (f := 15) rfl ?_); refine goesL_ (some 197) rfl rfl Tryz.func15 (by kernel_rfl) rfl #[.slice A1 l1.length c1] rfl lm ?_; (with_reducible refine (spec_DrawConjugatePair.calls kj46 _ _ l1 t369 t370 t371 t372 _ ?side1 ?side2 A82.out).mono ?_); (case side1 => repeat (first | exact (Kd.C_below HR1.out HB.out) | (with_reducible refine Kd.C_alloc ?_ _) | (with_reducible refine Kd.C_drewN ?_ _) | (with_reducible refine Kd.C_drew ?_))); (case side2 => exact HC1.out); rintro e w86 ⟨rfl, hb⟩; refine ⟨_, rfl, ?_⟩; have n0_ := Aside0.mk (below_step (lB HB.out) hb); clear HB; have HB := n0_; clear n0_; (try clear hb); (try clear hb2); (try clear hk); (try clear hi)) | ((with_reducible refine gate_dst (N := 26) rfl ?_); refine box_event ?hg (N := 26) ?hd (cs := #[.string (⟨#[]⟩ : ByteArray), .string (⟨#[]⟩ : ByteArray)]) (t := 25) ?hr ?_; (case hd => rfl); (case hg => rfl); (case hr => exact lr); intro gb373 hg w87 hbox hb; have n0_ := Aside0.mk (below_step (lB HB.out) hb); have n1_ := Aside0.mk (hbox); have n2_ := gw hg (lB HB.out); have n3_ := gw hg (lB HB.out); clear HB; have HB := n0_; have BK373 := n1_; have GW373 := n2_; have GE373 := n3_; clear n0_ n1_ n2_ n3_; clear hb hbox hg) | ((with_reducible refine gate_dst (N := 27) rfl ?_); refine box_event ?hg (N := 27) ?hd (cs := #[.string (⟨#[]⟩ : ByteArray), .string (⟨#[]⟩ : ByteArray)]) (t := 25) ?hr ?_; (case hd => rfl); (case hg => rfl); (case hr => exact lr); intro gb374 hg w88 hbox hb; have n0_ := Aside0.mk (blk_below (lb BK373.out) hb); have n1_ := Aside0.mk (below_step (lB HB.out) hb); have n2_ := Aside0.mk (hbox); have n3_ := gw hg (lB HB.out); have n4_ := gw hg (lB HB.out); have n5_ := na hg (lb BK373.out); have n6_ := nz hg (lb BK373.out); clear BK373 HB; have BK373 := n0_; have HB := n1_; have BK374 := n2_; have GW374 := n3_; have GE374 := n4_; have NB373_374 := n5_; have NB374_373 := n6_; clear n0_ n1_ n2_ n3_ n4_ n5_ n6_; clear hb hbox hg; have hnb89 := NB373_374.out; have hnc89 := NB374_373.out; have hcz90_0 : w88.cell? ⟨gb373, 0, none⟩ = some (.string (⟨#[]⟩ : ByteArray)) := (blk_cell BK373.out 0).trans rfl; have hcz90_1 : w88.cell? ⟨gb373, 1, none⟩ = some (.string (⟨#[]⟩ : ByteArray)) := (blk_cell BK373.out 1).trans rfl; have hfz90_0 := blk_frozen BK373.out 0; have hfz90_1 := blk_frozen BK373.out 1; have hcz91_0 : w88.cell? ⟨gb374, 0, none⟩ = some (.string (⟨#[]⟩ : ByteArray)) := (blk_cell BK374.out 0).trans rfl; have hcz91_1 : w88.cell? ⟨gb374, 1, none⟩ = some (.string (⟨#[]⟩ : ByteArray)) := (blk_cell BK374.out 1).trans rfl; have hfz91_0 := blk_frozen BK374.out 0; have hfz91_1 := blk_frozen BK374.out 1) | ((with_reducible refine gate_callee (f := 12) rfl ?_); refine goesL_ (some 203) rfl rfl Tryz.func12 (by kernel_rfl) rfl #[.agg #[.string t369, .string t370], .agg #[.string t371, .string t372]] rfl lm ?_; (with_reducible refine (impl_ConjugatePair.calls t369 t370 t371 t372 t375 t376 t377 _ A83.out).mono ?_); rintro e w92 ⟨rfl, hb⟩; refine ⟨_, rfl, ?_⟩; have n0_ := Aside0.mk (blk_below (g := gb373) (o := .cells #[.string t369, .string t370] 25 (0, 0)) (by (with_reducible repeat (first | refine blk_drewN ?_ _ | refine blk_drew ?_ | refine blk_alloc ?_ _)); refine blk_far ?_ NB373_374.out _; (with_reducible repeat (first | refine blk_drewN ?_ _ | refine blk_drew ?_ | refine blk_alloc ?_ _)); refine blk_far ?_ NB373_374.out _; (with_reducible repeat (first | refine blk_drewN ?_ _ | refine blk_drew ?_ | refine blk_alloc ?_ _)); refine blk_put (cs := #[.string t369, .string (⟨#[]⟩ : ByteArray)]) ?_ 1 _ rfl; (with_reducible repeat (first | refine blk_drewN ?_ _ | refine blk_drew ?_ | refine blk_alloc ?_ _)); refine blk_put (cs := #[.string (⟨#[]⟩ : ByteArray), .string (⟨#[]⟩ : ByteArray)]) ?_ 0 _ rfl; exact lb BK373.out) hb); have n1_ := Aside0.mk (blk_below (g := gb374) (o := .cells #[.string t371, .string t372] 25 (0, 0)) (by (with_reducible repeat (first | refine blk_drewN ?_ _ | refine blk_drew ?_ | refine blk_alloc ?_ _)); refine blk_put (cs := #[.string t371, .string (⟨#[]⟩ : ByteArray)]) ?_ 1 _ rfl; (with_reducible repeat (first | refine blk_drewN ?_ _ | refine blk_drew ?_ | refine blk_alloc ?_ _)); refine blk_put (cs := #[.string (⟨#[]⟩ : ByteArray), .string (⟨#[]⟩ : ByteArray)]) ?_ 0 _ rfl; (with_reducible repeat (first | refine blk_drewN ?_ _ | refine blk_drew ?_ | refine blk_alloc ?_ _)); refine blk_far ?_ NB374_373.out _; (with_reducible repeat (first | refine blk_drewN ?_ _ | refine blk_drew ?_ | refine blk_alloc ?_ _)); refine blk_far ?_ NB374_373.out _; exact lb BK374.out) hb); have n2_ := Aside0.mk (below_step (lB HB.out) hb); clear BK373 BK374 HB; have BK373 := n0_; have BK374 := n1_; have HB := n2_; clear n0_ n1_ n2_; (try clear hb); (try clear hb2); (try clear hk); (try clear hi)) | ((with_reducible refine gate_dst (N := 28) rfl ?_); refine box_event ?hg (N := 28) ?hd (cs := #[.string (⟨#[]⟩ : ByteArray), .string (⟨#[]⟩ : ByteArray)]) (t := 25) ?hr ?_; (case hd => rfl); (case hg => rfl); (case hr => exact lr); intro gb378 hg w93 hbox hb; have n0_ := Aside0.mk (blk_below (lb BK373.out) hb); have n1_ := Aside0.mk (blk_below (lb BK374.out) hb); have n2_ := Aside0.mk (below_step (lB HB.out) hb); have n3_ := Aside0.mk (hbox); have n4_ := gw hg (lB HB.out); have n5_ := gw hg (lB HB.out); have n6_ := na hg (lb BK373.out); have n7_ := nz hg (lb BK373.out); have n8_ := na hg (lb BK374.out); have n9_ := nz hg (lb BK374.out); clear BK373 BK374 HB; have BK373 := n0_; have BK374 := n1_; have HB := n2_; have BK378 := n3_; have GW378 := n4_; have GE378 := n5_; have NB373_378 := n6_; have NB378_373 := n7_; have NB374_378 := n8_; have NB378_374 := n9_; clear n0_ n1_ n2_ n3_ n4_ n5_ n6_ n7_ n8_ n9_; clear hb hbox hg; have hnb94 := NB378_373.out; have hnc94 := NB373_378.out; have hnb95 := NB378_374.out; have hnc95 := NB374_378.out; have hcz96_0 : w93.cell? ⟨gb378, 0, none⟩ = some (.string (⟨#[]⟩ : ByteArray)) := (blk_cell BK378.out 0).trans rfl; have hcz96_1 : w93.cell? ⟨gb378, 1, none⟩ = some (.string (⟨#[]⟩ : ByteArray)) := (blk_cell BK378.out 1).trans rfl; have hfz96_0 := blk_frozen BK378.out 0; have hfz96_1 := blk_frozen BK378.out 1; have hcz97_0 : w93.cell? ⟨gb373, 0, none⟩ = some (.string t369) := (blk_cell BK373.out 0).trans rfl; have hcz97_1 : w93.cell? ⟨gb373, 1, none⟩ = some (.string t370) := (blk_cell BK373.out 1).trans rfl; have hfz97_0 := blk_frozen BK373.out 0; have hfz97_1 := blk_frozen BK373.out 1; have hcz98_0 : w93.cell? ⟨gb374, 0, none⟩ = some (.string t371) := (blk_cell BK374.out 0).trans rfl; have hcz98_1 : w93.cell? ⟨gb374, 1, none⟩ = some (.string t372) := (blk_cell BK374.out 1).trans rfl; have hfz98_0 := blk_frozen BK374.out 0; have hfz98_1 := blk_frozen BK374.out 1) | ((with_reducible refine gate_callee (f := 16) rfl ?_); refine goesL_ (some 209) rfl rfl Tryz.func16 (by kernel_rfl) rfl #[.agg #[.string t369, .string t370], .agg #[.string t371, .string t372]] rfl lm ?_; (with_reducible refine (spec_ConjugatePair.calls t369 t370 t371 t372 t379 t380 t381 _ A84.out).mono ?_); rintro e w99 ⟨rfl, hb⟩; refine ⟨_, rfl, ?_⟩; have n0_ := Aside0.mk (blk_below (g := gb373) (o := .cells #[.string t369, .string t370] 25 (0, 0)) (by (with_reducible repeat (first | refine blk_drewN ?_ _ | refine blk_drew ?_ | refine blk_alloc ?_ _)); refine blk_far ?_ NB373_378.out _; (with_reducible repeat (first | refine blk_drewN ?_ _ | refine blk_drew ?_ | refine blk_alloc ?_ _)); refine blk_far ?_ NB373_378.out _; exact lb BK373.out) hb); have n1_ := Aside0.mk (blk_below (g := gb374) (o := .cells #[.string t371, .string t372] 25 (0, 0)) (by (with_reducible repeat (first | refine blk_drewN ?_ _ | refine blk_drew ?_ | refine blk_alloc ?_ _)); refine blk_far ?_ NB374_378.out _; (with_reducible repeat (first | refine blk_drewN ?_ _ | refine blk_drew ?_ | refine blk_alloc ?_ _)); refine blk_far ?_ NB374_378.out _; exact lb BK374.out) hb); have n2_ := Aside0.mk (blk_below (g := gb378) (o := .cells #[.string t375, .string t376] 25 (0, 0)) (by (with_reducible repeat (first | refine blk_drewN ?_ _ | refine blk_drew ?_ | refine blk_alloc ?_ _)); refine blk_put (cs := #[.string t375, .string (⟨#[]⟩ : ByteArray)]) ?_ 1 _ rfl; (with_reducible repeat (first | refine blk_drewN ?_ _ | refine blk_drew ?_ | refine blk_alloc ?_ _)); refine blk_put (cs := #[.string (⟨#[]⟩ : ByteArray), .string (⟨#[]⟩ : ByteArray)]) ?_ 0 _ rfl; exact lb BK378.out) hb); have n3_ := Aside0.mk (below_step (lB HB.out) hb); clear BK373 BK374 BK378 HB; have BK373 := n0_; have BK374 := n1_; have BK378 := n2_; have HB := n3_; clear n0_ n1_ n2_ n3_; (try clear hb); (try clear hb2); (try clear hk); (try clear hi)) | ((with_reducible refine gate_dst (N := 30) rfl ?_); refine box_event ?hg (N := 30) ?hd (cs := #[.string (⟨#[]⟩ : ByteArray), .string (⟨#[]⟩ : ByteArray)]) (t := 25) ?hr ?_; (case hd => rfl); (case hg => rfl); (case hr => exact lr); intro gb382 hg w100 hbox hb; have n0_ := Aside0.mk (blk_below (lb BK373.out) hb); have n1_ := Aside0.mk (blk_below (lb BK374.out) hb); have n2_ := Aside0.mk (blk_below (lb BK378.out) hb); have n3_ := Aside0.mk (below_step (lB HB.out) hb); have n4_ := Aside0.mk (hbox); have n5_ := gw hg (lB HB.out); have n6_ := gw hg (lB HB.out); have n7_ := na hg (lb BK373.out); have n8_ := nz hg (lb BK373.out); have n9_ := na hg (lb BK374.out); have n10_ := nz hg (lb BK374.out); have n11_ := na hg (lb BK378.out); have n12_ := nz hg (lb BK378.out); clear BK373 BK374 BK378 HB; have BK373 := n0_; have BK374 := n1_; have BK378 := n2_; have HB := n3_; have BK382 := n4_; have GW382 := n5_; have GE382 := n6_; have NB373_382 := n7_; have NB382_373 := n8_; have NB374_382 := n9_; have NB382_374 := n10_; have NB378_382 := n11_; have NB382_378 := n12_; clear n0_ n1_ n2_ n3_ n4_ n5_ n6_ n7_ n8_ n9_ n10_ n11_ n12_; clear hb hbox hg; have hnb101 := NB382_373.out; have hnc101 := NB373_382.out; have hnb102 := NB382_374.out; have hnc102 := NB374_382.out; have hnb103 := NB382_378.out; have hnc103 := NB378_382.out; have hcz104_0 : w100.cell? ⟨gb382, 0, none⟩ = some (.string (⟨#[]⟩ : ByteArray)) := (blk_cell BK382.out 0).trans rfl; have hcz104_1 : w100.cell? ⟨gb382, 1, none⟩ = some (.string (⟨#[]⟩ : ByteArray)) := (blk_cell BK382.out 1).trans rfl; have hfz104_0 := blk_frozen BK382.out 0; have hfz104_1 := blk_frozen BK382.out 1))
    (try simp only [Act.put, List.setIfInBounds_toArray, List.set_cons_zero, List.set_cons_succ])
    go_cut [219] (fun v219 wc => ∃ (kq : Nat) (x219_84 : Bool), v219 = .bool x219_84 ∧ Aside0 (laws_FnConjugatesFound.j2 kq l1 t377 x219_84 t369 t370 t371 t372 t375 t376 = some r) ∧ Aside0 (kq ≤ kj46) ∧ Aside0 (wc.heap[gb373]? = some (.cells #[.string t369, .string t370] 25 (0, 0))) ∧ Aside0 (wc.heap[gb374]? = some (.cells #[.string t371, .string t372] 25 (0, 0))) ∧ Aside0 (wc.heap[gb378]? = some (.cells #[.string t375, .string t376] 25 (0, 0))) ∧ Aside0 (Below w.heap.size w wc))
    case first =>
     as_aux_lemma =>
     have H := HC85.out
     clear HC85
     by_cases c105 : (t377 != t381) = true
     · rw [if_pos c105] at H
       have c105b0 : (t377 != t381) = true := c105
       (try (have c105b1 : decide (t377 = t381) = false := by simpa using c105))
       (try (have c105b2 : (t377 == t381) = false := by simpa using c105))
       (try (have c105b3 : ¬ (t377 = t381) := by simpa using c105))
       clear c105
       (first | rw [c105b0] | (simp only [i64_w, i32_w]; rw [c105b0]) | skip)
       have H' := Aside0.mk H
       clear H
       go_wp2
       go_meet
       case rel => exact ⟨_, (true), (by first | rfl | (simp; done) | (simp [*]; done)), H', ⟨by have := HJ9.out; have := HJ46.out; first | omega | exact Nat.le_refl _⟩, ⟨by (with_reducible repeat (first | refine blk_drewN ?_ _ | refine blk_drew ?_ | refine blk_alloc ?_ _)); refine blk_far ?_ NB373_382.out _; (with_reducible repeat (first | refine blk_drewN ?_ _ | refine blk_drew ?_ | refine blk_alloc ?_ _)); refine blk_far ?_ NB373_382.out _; exact lb BK373.out⟩, ⟨by (with_reducible repeat (first | refine blk_drewN ?_ _ | refine blk_drew ?_ | refine blk_alloc ?_ _)); refine blk_far ?_ NB374_382.out _; (with_reducible repeat (first | refine blk_drewN ?_ _ | refine blk_drew ?_ | refine blk_alloc ?_ _)); refine blk_far ?_ NB374_382.out _; exact lb BK374.out⟩, ⟨by (with_reducible repeat (first | refine blk_drewN ?_ _ | refine blk_drew ?_ | refine blk_alloc ?_ _)); refine blk_far ?_ NB378_382.out _; (with_reducible repeat (first | refine blk_drewN ?_ _ | refine blk_drew ?_ | refine blk_alloc ?_ _)); refine blk_far ?_ NB378_382.out _; exact lb BK378.out⟩, ⟨by exact lB HB.out⟩⟩
     rw [if_neg c105] at H
     have c105b0 : (t377 != t381) = false := by simpa using c105
     (try (have c105b1 : decide (t377 = t381) = true := by simpa using c105))
     (try (have c105b2 : (t377 == t381) = true := by simpa using c105))
     clear c105
     (first | rw [c105b0] | (simp only [i64_w, i32_w]; rw [c105b0]) | skip)
     have H' := Aside0.mk H
     clear H
     have hnb106 := NB378_373.out
     have hnc106 := NB373_378.out
     have hnb107 := NB378_374.out
     have hnc107 := NB374_378.out
     have hnb108 := NB378_382.out
     have hnc108 := NB382_378.out
     have hcz109_0 : w100.cell? ⟨gb378, 0, none⟩ = some (.string t375) := (blk_cell BK378.out 0).trans rfl
     have hcz109_1 : w100.cell? ⟨gb378, 1, none⟩ = some (.string t376) := (blk_cell BK378.out 1).trans rfl
     have hfz109_0 := blk_frozen BK378.out 0
     have hfz109_1 := blk_frozen BK378.out 1
     have hnb110 := NB382_373.out
     have hnc110 := NB373_382.out
     have hnb111 := NB382_374.out
     have hnc111 := NB374_382.out
     have hcz112_0 : w100.cell? ⟨gb382, 0, none⟩ = some (.string (⟨#[]⟩ : ByteArray)) := (blk_cell BK382.out 0).trans rfl
     have hcz112_1 : w100.cell? ⟨gb382, 1, none⟩ = some (.string (⟨#[]⟩ : ByteArray)) := (blk_cell BK382.out 1).trans rfl
     have hfz112_0 := blk_frozen BK382.out 0
     have hfz112_1 := blk_frozen BK382.out 1
     go_wp2
     go_meet
     case rel => exact ⟨_, ((!(t375.toList == t379.toList) || (!(t376.toList == t380.toList)))), (by first | rfl | (simp; done) | (simp [*]; done)), H', ⟨by have := HJ9.out; have := HJ46.out; first | omega | exact Nat.le_refl _⟩, ⟨by (with_reducible repeat (first | refine blk_drewN ?_ _ | refine blk_drew ?_ | refine blk_alloc ?_ _)); refine blk_far ?_ NB373_382.out _; (with_reducible repeat (first | refine blk_drewN ?_ _ | refine blk_drew ?_ | refine blk_alloc ?_ _)); refine blk_far ?_ NB373_382.out _; exact lb BK373.out⟩, ⟨by (with_reducible repeat (first | refine blk_drewN ?_ _ | refine blk_drew ?_ | refine blk_alloc ?_ _)); refine blk_far ?_ NB374_382.out _; (with_reducible repeat (first | refine blk_drewN ?_ _ | refine blk_drew ?_ | refine blk_alloc ?_ _)); refine blk_far ?_ NB374_382.out _; exact lb BK374.out⟩, ⟨by (with_reducible repeat (first | refine blk_drewN ?_ _ | refine blk_drew ?_ | refine blk_alloc ?_ _)); refine blk_far ?_ NB378_382.out _; (with_reducible repeat (first | refine blk_drewN ?_ _ | refine blk_drew ?_ | refine blk_alloc ?_ _)); refine blk_far ?_ NB378_382.out _; exact lb BK378.out⟩, ⟨by exact lB HB.out⟩⟩
    case rest =>
    as_aux_lemma =>
    clear HC85
    (try clear c1)
    (try clear hcz104_0); (try clear hcz104_1)
    (try clear hcz90_0); (try clear hcz90_1); (try clear hcz91_0); (try clear hcz91_1); (try clear hcz96_0); (try clear hcz96_1); (try clear hcz97_0); (try clear hcz97_1); (try clear hcz98_0); (try clear hcz98_1); (try clear hfz104_0); (try clear hfz104_1)
    (try clear hfz90_0); (try clear hfz90_1); (try clear hfz91_0); (try clear hfz91_1); (try clear hfz96_0); (try clear hfz96_1); (try clear hfz97_0); (try clear hfz97_1); (try clear hfz98_0); (try clear hfz98_1)
    obtain ⟨kq, x219_84, rfl, HA, HJ84, BK373, BK374, BK378, HB⟩ := hcut
    cases kq with
    | zero => exact absurd HA.out (by simp [laws_FnConjugatesFound.j2])
    | succ kj84 =>
     have H := HA.out
     clear HA
     simp only [laws_FnConjugatesFound.j2] at H
     by_cases c113 : x219_84 = true
     · subst c113
       rw [if_pos rfl] at H
       exact absurd ((Option.some.inj H).trans HRT.out) (by decide)
     replace c113 := Bool.eq_false_iff.mpr c113
     subst c113
     rw [if_neg (show ¬ (false = true) by decide)] at H
     have HC114 := Aside0.mk H
     clear H
     go_upto_if 220 with (fail)
     go_cut [] (fun wc => ∃ (kq : Nat), Aside0 (laws_FnConjugatesFound.j3 kq l1 = some r) ∧ Aside0 (kq ≤ kj84) ∧ Aside0 (Below w.heap.size w wc))
     case first =>
      as_aux_lemma =>
      have H := HC114.out
      clear HC114
      by_cases c115 : t377 = true
      rotate_left
      · replace c115 := Bool.eq_false_iff.mpr c115
        subst c115
        rw [if_neg (show ¬ (false = true) by decide)] at H
        have H' := Aside0.mk H
        clear H
        go_wp2
        go_meet
        case rel => exact ⟨_, H', ⟨by have := HJ9.out; have := HJ46.out; have := HJ84.out; first | omega | exact Nat.le_refl _⟩, ⟨by exact lB HB.out⟩⟩
      subst c115
      rw [if_pos rfl] at H
      replace H := Option.bind_eq_some_iff.mp H
      obtain ⟨⟨t383, t384, t385⟩, A1160, H⟩ := H
      (try dsimp only at H)
      have A116 := Aside0.mk A1160
      clear A1160
      replace H := Option.bind_eq_some_iff.mp H
      obtain ⟨⟨t387, t388, t389⟩, A1170, H⟩ := H
      (try dsimp only at H)
      have A117 := Aside0.mk A1170
      clear A1170
      replace H := Option.bind_eq_some_iff.mp H
      obtain ⟨⟨t391, t392, t393⟩, A1180, H⟩ := H
      (try dsimp only at H)
      have A118 := Aside0.mk A1180
      clear A1180
      replace H := Option.bind_eq_some_iff.mp H
      obtain ⟨⟨t394, t395, t396⟩, A1190, H⟩ := H
      (try dsimp only at H)
      have A119 := Aside0.mk A1190
      clear A1190
      by_cases c120 : t385 = true
      rotate_left
      · replace c120 := Bool.eq_false_iff.mpr c120
        subst c120
        rw [if_neg (show ¬ (false = true) by decide)] at H
        exact absurd ((Option.some.inj H).trans HRT.out) (by decide)
      subst c120
      rw [if_pos rfl] at H
      by_cases c121 : t389 = true
      rotate_left
      · replace c121 := Bool.eq_false_iff.mpr c121
        subst c121
        rw [if_neg (show ¬ (false = true) by decide)] at H
        exact absurd ((Option.some.inj H).trans HRT.out) (by decide)
      subst c121
      rw [if_pos rfl] at H
      replace H := Option.bind_eq_some_iff.mp H
      obtain ⟨⟨t397, t398⟩, A1220, H⟩ := H
      (try dsimp only at H)
      have A122 := Aside0.mk A1220
      clear A1220
      by_cases c123 : (!(t387.toList == t397.toList) || (!(t388.toList == t398.toList))) = true
      · rw [if_pos c123] at H
        have c123b0 : (!(t387.toList == t397.toList) || (!(t388.toList == t398.toList))) = true := c123
        clear c123
        (first | rw [c123b0] | (simp only [i64_w, i32_w]; rw [c123b0]) | skip)
        exact absurd ((Option.some.inj H).trans HRT.out) (by decide)
      rw [if_neg c123] at H
      have c123b0 : (!(t387.toList == t397.toList) || (!(t388.toList == t398.toList))) = false := by simpa using c123
      clear c123
      (first | rw [c123b0] | (simp only [i64_w, i32_w]; rw [c123b0]) | skip)
      by_cases c124 : t393 = true
      rotate_left
      · replace c124 := Bool.eq_false_iff.mpr c124
        subst c124
        rw [if_neg (show ¬ (false = true) by decide)] at H
        exact absurd ((Option.some.inj H).trans HRT.out) (by decide)
      subst c124
      rw [if_pos rfl] at H
      by_cases c125 : t396 = true
      rotate_left
      · replace c125 := Bool.eq_false_iff.mpr c125
        subst c125
        rw [if_neg (show ¬ (false = true) by decide)] at H
        exact absurd ((Option.some.inj H).trans HRT.out) (by decide)
      subst c125
      rw [if_pos rfl] at H
      by_cases c126 : t391 = t394
      rotate_left
      · rw [if_neg c126] at H
        have c126b0 : (t391 == t394) = false := beq_eq_false_iff_ne.mpr c126
        have c126b1 : (t391 != t394) = true := bne_iff_ne.mpr c126
        exact absurd ((Option.some.inj H).trans HRT.out) (by decide)
      rw [if_pos c126] at H
      have c126b0 : (t391 == t394) = true := beq_iff_eq.mpr c126
      have c126b1 : (t391 != t394) = false := bne_eq_false_iff_eq.mpr c126
      clear c126
      by_cases c127 : t392 = t395
      rotate_left
      · rw [if_neg c127] at H
        have c127b0 : (t392 == t395) = false := beq_eq_false_iff_ne.mpr c127
        have c127b1 : (t392 != t395) = true := bne_iff_ne.mpr c127
        exact absurd ((Option.some.inj H).trans HRT.out) (by decide)
      rw [if_pos c127] at H
      have c127b0 : (t392 == t395) = true := beq_iff_eq.mpr c127
      have c127b1 : (t392 != t395) = false := bne_eq_false_iff_eq.mpr c127
      clear c127
      have H' := Aside0.mk H
      clear H
      have hnb128 := NB374_373.out
      have hnc128 := NB373_374.out
      have hnb129 := NB374_378.out
      have hnc129 := NB378_374.out
      have hcz130_0 : wc.cell? ⟨gb374, 0, none⟩ = some (.string t371) := (blk_cell BK374.out 0).trans rfl
      have hcz130_1 : wc.cell? ⟨gb374, 1, none⟩ = some (.string t372) := (blk_cell BK374.out 1).trans rfl
      have hfz130_0 := blk_frozen BK374.out 0
      have hfz130_1 := blk_frozen BK374.out 1
      try go_wp2_with (first | ((with_reducible refine gate_callee (f := 17) rfl ?_); refine goesL_ (some 223) rfl rfl Tryz.func17 (by kernel_rfl) rfl #[.agg #[.string t371, .string t372]] rfl lm ?_; (with_reducible refine (impl_InversePair.calls t371 t372 t383 t384 true _ A116.out).mono ?_); rintro e w131 ⟨rfl, hb⟩; refine ⟨_, rfl, ?_⟩; have n0_ := Aside0.mk (blk_below (lb BK373.out) hb); have n1_ := Aside0.mk (blk_below (lb BK374.out) hb); have n2_ := Aside0.mk (blk_below (lb BK378.out) hb); have n3_ := Aside0.mk (below_step (lB HB.out) hb); clear BK373 BK374 BK378 HB; have BK373 := n0_; have BK374 := n1_; have BK378 := n2_; have HB := n3_; clear n0_ n1_ n2_ n3_; (try clear hb); (try clear hb2); (try clear hk); (try clear hi)) | ((with_reducible refine gate_dst (N := 32) rfl ?_); refine box_event ?hg (N := 32) ?hd (cs := #[.string (⟨#[]⟩ : ByteArray), .string (⟨#[]⟩ : ByteArray)]) (t := 25) ?hr ?_; (case hd => rfl); (case hg => rfl); (case hr => exact lr); intro gb386 hg w132 hbox hb; have n0_ := Aside0.mk (blk_below (lb BK373.out) hb); have n1_ := Aside0.mk (blk_below (lb BK374.out) hb); have n2_ := Aside0.mk (blk_below (lb BK378.out) hb); have n3_ := Aside0.mk (below_step (lB HB.out) hb); have n4_ := Aside0.mk (hbox); have n5_ := gw hg (lB HB.out); have n6_ := gw hg (lB HB.out); have n7_ := na hg (lb BK373.out); have n8_ := nz hg (lb BK373.out); have n9_ := na hg (lb BK374.out); have n10_ := nz hg (lb BK374.out); have n11_ := na hg (lb BK378.out); have n12_ := nz hg (lb BK378.out); clear BK373 BK374 BK378 HB; have BK373 := n0_; have BK374 := n1_; have BK378 := n2_; have HB := n3_; have BK386 := n4_; have GW386 := n5_; have GE386 := n6_; have NB373_386 := n7_; have NB386_373 := n8_; have NB374_386 := n9_; have NB386_374 := n10_; have NB378_386 := n11_; have NB386_378 := n12_; clear n0_ n1_ n2_ n3_ n4_ n5_ n6_ n7_ n8_ n9_ n10_ n11_ n12_; clear hb hbox hg; have hnb133 := NB386_373.out; have hnc133 := NB373_386.out; have hnb134 := NB386_374.out; have hnc134 := NB374_386.out; have hnb135 := NB386_378.out; have hnc135 := NB378_386.out; have hcz136_0 : w132.cell? ⟨gb386, 0, none⟩ = some (.string (⟨#[]⟩ : ByteArray)) := (blk_cell BK386.out 0).trans rfl; have hcz136_1 : w132.cell? ⟨gb386, 1, none⟩ = some (.string (⟨#[]⟩ : ByteArray)) := (blk_cell BK386.out 1).trans rfl; have hfz136_0 := blk_frozen BK386.out 0; have hfz136_1 := blk_frozen BK386.out 1; have hnb137 := NB378_373.out; have hnc137 := NB373_378.out; have hcz138_0 : w132.cell? ⟨gb378, 0, none⟩ = some (.string t375) := (blk_cell BK378.out 0).trans rfl; have hcz138_1 : w132.cell? ⟨gb378, 1, none⟩ = some (.string t376) := (blk_cell BK378.out 1).trans rfl; have hfz138_0 := blk_frozen BK378.out 0; have hfz138_1 := blk_frozen BK378.out 1) | ((with_reducible refine gate_callee (f := 12) rfl ?_); refine goesL_ (some 229) rfl rfl Tryz.func12 (by kernel_rfl) rfl #[.agg #[.string t375, .string t376], .agg #[.string t383, .string t384]] rfl lm ?_; (with_reducible refine (impl_ConjugatePair.calls t375 t376 t383 t384 t387 t388 true _ A117.out).mono ?_); rintro e w139 ⟨rfl, hb⟩; refine ⟨_, rfl, ?_⟩; have n0_ := Aside0.mk (blk_below (g := gb373) (o := .cells #[.string t369, .string t370] 25 (0, 0)) (by (with_reducible repeat (first | refine blk_drewN ?_ _ | refine blk_drew ?_ | refine blk_alloc ?_ _)); refine blk_far ?_ NB373_386.out _; (with_reducible repeat (first | refine blk_drewN ?_ _ | refine blk_drew ?_ | refine blk_alloc ?_ _)); refine blk_far ?_ NB373_386.out _; exact lb BK373.out) hb); have n1_ := Aside0.mk (blk_below (g := gb374) (o := .cells #[.string t371, .string t372] 25 (0, 0)) (by (with_reducible repeat (first | refine blk_drewN ?_ _ | refine blk_drew ?_ | refine blk_alloc ?_ _)); refine blk_far ?_ NB374_386.out _; (with_reducible repeat (first | refine blk_drewN ?_ _ | refine blk_drew ?_ | refine blk_alloc ?_ _)); refine blk_far ?_ NB374_386.out _; exact lb BK374.out) hb); have n2_ := Aside0.mk (blk_below (g := gb378) (o := .cells #[.string t375, .string t376] 25 (0, 0)) (by (with_reducible repeat (first | refine blk_drewN ?_ _ | refine blk_drew ?_ | refine blk_alloc ?_ _)); refine blk_far ?_ NB378_386.out _; (with_reducible repeat (first | refine blk_drewN ?_ _ | refine blk_drew ?_ | refine blk_alloc ?_ _)); refine blk_far ?_ NB378_386.out _; exact lb BK378.out) hb); have n3_ := Aside0.mk (blk_below (g := gb386) (o := .cells #[.string t383, .string t384] 25 (0, 0)) (by (with_reducible repeat (first | refine blk_drewN ?_ _ | refine blk_drew ?_ | refine blk_alloc ?_ _)); refine blk_put (cs := #[.string t383, .string (⟨#[]⟩ : ByteArray)]) ?_ 1 _ rfl; (with_reducible repeat (first | refine blk_drewN ?_ _ | refine blk_drew ?_ | refine blk_alloc ?_ _)); refine blk_put (cs := #[.string (⟨#[]⟩ : ByteArray), .string (⟨#[]⟩ : ByteArray)]) ?_ 0 _ rfl; exact lb BK386.out) hb); have n4_ := Aside0.mk (below_step (lB HB.out) hb); clear BK373 BK374 BK378 BK386 HB; have BK373 := n0_; have BK374 := n1_; have BK378 := n2_; have BK386 := n3_; have HB := n4_; clear n0_ n1_ n2_ n3_ n4_; (try clear hb); (try clear hb2); (try clear hk); (try clear hi)) | ((with_reducible refine gate_dst (N := 34) rfl ?_); refine box_event ?hg (N := 34) ?hd (cs := #[.string (⟨#[]⟩ : ByteArray), .string (⟨#[]⟩ : ByteArray)]) (t := 25) ?hr ?_; (case hd => rfl); (case hg => rfl); (case hr => exact lr); intro gb390 hg w140 hbox hb; have n0_ := Aside0.mk (blk_below (lb BK373.out) hb); have n1_ := Aside0.mk (blk_below (lb BK374.out) hb); have n2_ := Aside0.mk (blk_below (lb BK378.out) hb); have n3_ := Aside0.mk (blk_below (lb BK386.out) hb); have n4_ := Aside0.mk (below_step (lB HB.out) hb); have n5_ := Aside0.mk (hbox); have n6_ := gw hg (lB HB.out); have n7_ := gw hg (lB HB.out); have n8_ := na hg (lb BK373.out); have n9_ := nz hg (lb BK373.out); have n10_ := na hg (lb BK374.out); have n11_ := nz hg (lb BK374.out); have n12_ := na hg (lb BK378.out); have n13_ := nz hg (lb BK378.out); have n14_ := na hg (lb BK386.out); have n15_ := nz hg (lb BK386.out); clear BK373 BK374 BK378 BK386 HB; have BK373 := n0_; have BK374 := n1_; have BK378 := n2_; have BK386 := n3_; have HB := n4_; have BK390 := n5_; have GW390 := n6_; have GE390 := n7_; have NB373_390 := n8_; have NB390_373 := n9_; have NB374_390 := n10_; have NB390_374 := n11_; have NB378_390 := n12_; have NB390_378 := n13_; have NB386_390 := n14_; have NB390_386 := n15_; clear n0_ n1_ n2_ n3_ n4_ n5_ n6_ n7_ n8_ n9_ n10_ n11_ n12_ n13_ n14_ n15_; clear hb hbox hg; have hnb141 := NB390_373.out; have hnc141 := NB373_390.out; have hnb142 := NB390_374.out; have hnc142 := NB374_390.out; have hnb143 := NB390_378.out; have hnc143 := NB378_390.out; have hnb144 := NB390_386.out; have hnc144 := NB386_390.out; have hcz145_0 : w140.cell? ⟨gb390, 0, none⟩ = some (.string (⟨#[]⟩ : ByteArray)) := (blk_cell BK390.out 0).trans rfl; have hcz145_1 : w140.cell? ⟨gb390, 1, none⟩ = some (.string (⟨#[]⟩ : ByteArray)) := (blk_cell BK390.out 1).trans rfl; have hfz145_0 := blk_frozen BK390.out 0; have hfz145_1 := blk_frozen BK390.out 1; have hcz146_0 : w140.cell? ⟨gb373, 0, none⟩ = some (.string t369) := (blk_cell BK373.out 0).trans rfl; have hcz146_1 : w140.cell? ⟨gb373, 1, none⟩ = some (.string t370) := (blk_cell BK373.out 1).trans rfl; have hfz146_0 := blk_frozen BK373.out 0; have hfz146_1 := blk_frozen BK373.out 1) | ((with_reducible refine gate_callee (f := 13) rfl ?_); refine goesL_ (some 234) rfl rfl Tryz.func13 (by kernel_rfl) rfl #[.agg #[.string t369, .string t370]] rfl lm ?_; (with_reducible refine (impl_SumsOfPair.calls t369 t370 t391 t392 true _ A118.out).mono ?_); rintro e w147 ⟨rfl, hb⟩; refine ⟨_, rfl, ?_⟩; have n0_ := Aside0.mk (blk_below (g := gb373) (o := .cells #[.string t369, .string t370] 25 (0, 0)) (by (with_reducible repeat (first | refine blk_drewN ?_ _ | refine blk_drew ?_ | refine blk_alloc ?_ _)); refine blk_far ?_ NB373_390.out _; (with_reducible repeat (first | refine blk_drewN ?_ _ | refine blk_drew ?_ | refine blk_alloc ?_ _)); refine blk_far ?_ NB373_390.out _; exact lb BK373.out) hb); have n1_ := Aside0.mk (blk_below (g := gb374) (o := .cells #[.string t371, .string t372] 25 (0, 0)) (by (with_reducible repeat (first | refine blk_drewN ?_ _ | refine blk_drew ?_ | refine blk_alloc ?_ _)); refine blk_far ?_ NB374_390.out _; (with_reducible repeat (first | refine blk_drewN ?_ _ | refine blk_drew ?_ | refine blk_alloc ?_ _)); refine blk_far ?_ NB374_390.out _; exact lb BK374.out) hb); have n2_ := Aside0.mk (blk_below (g := gb378) (o := .cells #[.string t375, .string t376] 25 (0, 0)) (by (with_reducible repeat (first | refine blk_drewN ?_ _ | refine blk_drew ?_ | refine blk_alloc ?_ _)); refine blk_far ?_ NB378_390.out _; (with_reducible repeat (first | refine blk_drewN ?_ _ | refine blk_drew ?_ | refine blk_alloc ?_ _)); refine blk_far ?_ NB378_390.out _; exact lb BK378.out) hb); have n3_ := Aside0.mk (blk_below (g := gb386) (o := .cells #[.string t383, .string t384] 25 (0, 0)) (by (with_reducible repeat (first | refine blk_drewN ?_ _ | refine blk_drew ?_ | refine blk_alloc ?_ _)); refine blk_far ?_ NB386_390.out _; (with_reducible repeat (first | refine blk_drewN ?_ _ | refine blk_drew ?_ | refine blk_alloc ?_ _)); refine blk_far ?_ NB386_390.out _; exact lb BK386.out) hb); have n4_ := Aside0.mk (blk_below (g := gb390) (o := .cells #[.string t387, .string t388] 25 (0, 0)) (by (with_reducible repeat (first | refine blk_drewN ?_ _ | refine blk_drew ?_ | refine blk_alloc ?_ _)); refine blk_put (cs := #[.string t387, .string (⟨#[]⟩ : ByteArray)]) ?_ 1 _ rfl; (with_reducible repeat (first | refine blk_drewN ?_ _ | refine blk_drew ?_ | refine blk_alloc ?_ _)); refine blk_put (cs := #[.string (⟨#[]⟩ : ByteArray), .string (⟨#[]⟩ : ByteArray)]) ?_ 0 _ rfl; exact lb BK390.out) hb); have n5_ := Aside0.mk (below_step (lB HB.out) hb); clear BK373 BK374 BK378 BK386 BK390 HB; have BK373 := n0_; have BK374 := n1_; have BK378 := n2_; have BK386 := n3_; have BK390 := n4_; have HB := n5_; clear n0_ n1_ n2_ n3_ n4_ n5_; (try clear hb); (try clear hb2); (try clear hk); (try clear hi); have hcz148_0 : w147.cell? ⟨gb378, 0, none⟩ = some (.string t375) := (blk_cell BK378.out 0).trans rfl; have hcz148_1 : w147.cell? ⟨gb378, 1, none⟩ = some (.string t376) := (blk_cell BK378.out 1).trans rfl; have hfz148_0 := blk_frozen BK378.out 0; have hfz148_1 := blk_frozen BK378.out 1) | ((with_reducible refine gate_callee (f := 13) rfl ?_); refine goesL_ (some 240) rfl rfl Tryz.func13 (by kernel_rfl) rfl #[.agg #[.string t375, .string t376]] rfl lm ?_; (with_reducible refine (impl_SumsOfPair.calls t375 t376 t394 t395 true _ A119.out).mono ?_); rintro e w149 ⟨rfl, hb⟩; refine ⟨_, rfl, ?_⟩; have n0_ := Aside0.mk (blk_below (lb BK373.out) hb); have n1_ := Aside0.mk (blk_below (lb BK374.out) hb); have n2_ := Aside0.mk (blk_below (lb BK378.out) hb); have n3_ := Aside0.mk (blk_below (lb BK386.out) hb); have n4_ := Aside0.mk (blk_below (lb BK390.out) hb); have n5_ := Aside0.mk (below_step (lB HB.out) hb); clear BK373 BK374 BK378 BK386 BK390 HB; have BK373 := n0_; have BK374 := n1_; have BK378 := n2_; have BK386 := n3_; have BK390 := n4_; have HB := n5_; clear n0_ n1_ n2_ n3_ n4_ n5_; (try clear hb); (try clear hb2); (try clear hk); (try clear hi)))
      have n0_ := Aside0.mk (blk_drew BK373.out)
      have n1_ := Aside0.mk (blk_drew BK374.out)
      have n2_ := Aside0.mk (blk_drew BK378.out)
      have n3_ := Aside0.mk (blk_drew BK386.out)
      have n4_ := Aside0.mk (blk_drew BK390.out)
      have n5_ := Aside0.mk (below_drew1 HB.out)
      clear BK373
      clear BK374
      clear BK378
      clear BK386
      clear BK390
      clear HB
      have BK373 := n0_
      have BK374 := n1_
      have BK378 := n2_
      have BK386 := n3_
      have BK390 := n4_
      have HB := n5_
      clear n0_ n1_ n2_ n3_ n4_ n5_
      refine start_ (n := 30) (S := fun w' => w'.cell? ⟨gb390, 0, none⟩ = some (.string t387) ∧ w'.cell? ⟨gb390, 1, none⟩ = some (.string t388) ∧ w'.cell? ⟨gb373, 0, none⟩ = some (.string t369) ∧ w'.cell? ⟨gb373, 1, none⟩ = some (.string t370)) (ds := []) #[false, false, false, false, false, false, false, false, false, false, false, false, false, false, false, false, false, false, false, false, false, false, false, false, false, false, false, false, false, false] (by kernel_rfl) rfl rfl ⟨(blk_cell BK390.out 0).trans rfl, (blk_cell BK390.out 1).trans rfl, (blk_cell BK373.out 0).trans rfl, (blk_cell BK373.out 1).trans rfl⟩ (fun hHeld => ?_); refine with_tabW laws_FnConjugatesFound.tab27 laws_FnConjugatesFound.bits27 (fun HT_ HW_ => ?_)
      generalize w149.drew = w150 at BK373 BK374 BK378 BK386 BK390 HB hHeld ⊢
      refine pure_ (i := 0) (N := some 244) (v := ?_) (a' := ?_) #[true, false, false, false, false, false, false, false, false, false, false, false, false, false, false, false, false, false, false, false, false, false, false, false, false, false, false, false, false, false] rfl rfl (any_of HT_.out (by kernel_rfl)) (fun _ _ _ h => h) (Or.inl ⟨by rfl, ?_⟩) ?_ ?_
      rotate_left
      · intro w'
        go_simp
        with_reducible rfl
      rotate_left
      · simp only [Act.put, List.setIfInBounds_toArray, List.set_cons_zero, List.set_cons_succ, i64_w, i32_w]
        rfl
      refine pure_ (i := 1) (N := some 245) (v := ?_) (a' := ?_) #[true, true, false, false, false, false, false, false, false, false, false, false, false, false, false, false, false, false, false, false, false, false, false, false, false, false, false, false, false, false] rfl rfl (any_of HT_.out (by kernel_rfl)) (fun _ _ _ h => h) (Or.inl ⟨by rfl, ?_⟩) ?_ ?_
      rotate_left
      · intro w'
        go_simp
        with_reducible rfl
      rotate_left
      · simp only [Act.put, List.setIfInBounds_toArray, List.set_cons_zero, List.set_cons_succ, i64_w, i32_w]
        rfl
      refine pure_ (i := 2) (N := some 246) (v := ?_) (a' := ?_) #[true, true, true, false, false, false, false, false, false, false, false, false, false, false, false, false, false, false, false, false, false, false, false, false, false, false, false, false, false, false] rfl rfl (any_of HT_.out (by kernel_rfl)) (fun _ _ _ h => h) (Or.inl ⟨by rfl, ?_⟩) ?_ ?_
      rotate_left
      · intro w'
        go_simp
        with_reducible rfl
      rotate_left
      · simp only [Act.put, List.setIfInBounds_toArray, List.set_cons_zero, List.set_cons_succ, i64_w, i32_w]
        rfl
      refine pure_ (i := 3) (N := some 247) (v := ?_) (a' := ?_) #[true, true, true, true, false, false, false, false, false, false, false, false, false, false, false, false, false, false, false, false, false, false, false, false, false, false, false, false, false, false] rfl rfl (any_of HT_.out (by kernel_rfl)) (fun _ _ _ h => h) (Or.inl ⟨by rfl, ?_⟩) ?_ ?_
      rotate_left
      · intro w'
        go_simp
        with_reducible rfl
      rotate_left
      · simp only [Act.put, List.setIfInBounds_toArray, List.set_cons_zero, List.set_cons_succ, i64_w, i32_w]
        rfl
      refine pure_ (i := 4) (N := some 248) (v := ?_) (a' := ?_) #[true, true, true, true, true, false, false, false, false, false, false, false, false, false, false, false, false, false, false, false, false, false, false, false, false, false, false, false, false, false] rfl rfl (any_of HT_.out (by kernel_rfl)) (fun _ _ _ h => h) (Or.inl ⟨by rfl, ?_⟩) ?_ ?_
      rotate_left
      · intro w'
        go_simp
        with_reducible rfl
      rotate_left
      · simp only [Act.put, List.setIfInBounds_toArray, List.set_cons_zero, List.set_cons_succ, i64_w, i32_w]
        rfl
      refine pure_ (i := 5) (N := some 249) (v := ?_) (a' := ?_) #[true, true, true, true, true, true, false, false, false, false, false, false, false, false, false, false, false, false, false, false, false, false, false, false, false, false, false, false, false, false] rfl rfl (any_of HT_.out (by kernel_rfl)) (fun _ _ _ h => h) (Or.inl ⟨by rfl, ?_⟩) ?_ ?_
      rotate_left
      · intro w'
        go_simp
        with_reducible rfl
      rotate_left
      · simp only [Act.put, List.setIfInBounds_toArray, List.set_cons_zero, List.set_cons_succ, i64_w, i32_w]
        rfl
      refine pure_ (i := 6) (N := some 250) (v := ?_) (a' := ?_) #[true, true, true, true, true, true, true, false, false, false, false, false, false, false, false, false, false, false, false, false, false, false, false, false, false, false, false, false, false, false] rfl rfl (any_of HT_.out (by kernel_rfl)) (fun _ _ _ h => h) (Or.inl ⟨by rfl, ?_⟩) ?_ ?_
      rotate_left
      · intro w'
        go_simp
        with_reducible rfl
      rotate_left
      · simp only [Act.put, List.setIfInBounds_toArray, List.set_cons_zero, List.set_cons_succ, i64_w, i32_w]
        rfl
      refine take_ (i := 7) (N := some 251) (v := ?_) (a' := ?_) #[true, true, true, true, true, true, true, true, false, false, false, false, false, false, false, false, false, false, false, false, false, false, false, false, false, false, false, false, false, false] rfl rfl (take_ofW HT_.out HW_.out (by kernel_rfl)) (fun _ _ _ h => h) (Or.inl ⟨by rfl, ?_⟩) hHeld ?_ ?_
      rotate_left
      · rintro w' ⟨s0, s1, s2, s3⟩
        go_simp
        with_reducible rfl
      rotate_left
      · simp only [Act.put, List.setIfInBounds_toArray, List.set_cons_zero, List.set_cons_succ, i64_w, i32_w]
        rfl
      refine take_ (i := 8) (N := some 252) (v := ?_) (a' := ?_) #[true, true, true, true, true, true, true, true, true, false, false, false, false, false, false, false, false, false, false, false, false, false, false, false, false, false, false, false, false, false] rfl rfl (take_ofW HT_.out HW_.out (by kernel_rfl)) (fun _ _ _ h => h) (Or.inl ⟨by rfl, ?_⟩) hHeld ?_ ?_
      rotate_left
      · rintro w' ⟨s0, s1, s2, s3⟩
        go_simp
        with_reducible rfl
      rotate_left
      · simp only [Act.put, List.setIfInBounds_toArray, List.set_cons_zero, List.set_cons_succ, i64_w, i32_w]
        rfl
      refine one_ (i := 9) (N := some 253) #[true, true, true, true, true, true, true, true, true, true, false, false, false, false, false, false, false, false, false, false, false, false, false, false, false, false, false, false, false, false] rfl rfl (one_of HT_.out (by kernel_rfl)) (by decide) (fun K hK => ?_)
      refine goes_ Tryz.func14 (by kernel_rfl) rfl #[.agg #[.string t369, .string t370]] (by rfl) rfl rfl lm ?_
      with_reducible refine (laws_nReduced.calls t369 t370 t397 t398 _ A122.out).mono ?_
      rintro e w151 ⟨rfl, hb⟩
      refine ⟨_, rfl, ?_⟩
      have n0_ := Aside0.mk (blk_below (lb BK373.out) hb)
      have n1_ := Aside0.mk (blk_below (lb BK374.out) hb)
      have n2_ := Aside0.mk (blk_below (lb BK378.out) hb)
      have n3_ := Aside0.mk (blk_below (lb BK386.out) hb)
      have n4_ := Aside0.mk (blk_below (lb BK390.out) hb)
      have n5_ := Aside0.mk (below_step (lB HB.out) hb)
      clear BK373
      clear BK374
      clear BK378
      clear BK386
      clear BK390
      clear HB
      have BK373 := n0_
      have BK374 := n1_
      have BK378 := n2_
      have BK386 := n3_
      have BK390 := n4_
      have HB := n5_
      clear n0_ n1_ n2_ n3_ n4_ n5_
      (try clear hb); (try clear hb2); (try clear hk); (try clear hi)
      refine hK.out _ _ ⟨(blk_cell BK390.out 0).trans rfl, (blk_cell BK390.out 1).trans rfl, (blk_cell BK373.out 0).trans rfl, (blk_cell BK373.out 1).trans rfl⟩ (fun hHeld => ?_)
      clear hK K
      refine norm_ (a' := ?_) ?_ ?_
      rotate_left
      · show Act.put _ (some 253) _ = _
        simp only [Act.put, List.setIfInBounds_toArray, List.set_cons_zero, List.set_cons_succ, i64_w, i32_w]
        rfl
      refine pure_ (i := 10) (N := some 254) (v := ?_) (a' := ?_) #[true, true, true, true, true, true, true, true, true, true, true, false, false, false, false, false, false, false, false, false, false, false, false, false, false, false, false, false, false, false] rfl rfl (any_of HT_.out (by kernel_rfl)) (fun _ _ _ h => h) (Or.inl ⟨by rfl, ?_⟩) ?_ ?_
      rotate_left
      · intro w'
        go_simp
        with_reducible rfl
      rotate_left
      · simp only [Act.put, List.setIfInBounds_toArray, List.set_cons_zero, List.set_cons_succ, i64_w, i32_w]
        rfl
      refine pure_ (i := 11) (N := some 255) (v := ?_) (a' := ?_) #[true, true, true, true, true, true, true, true, true, true, true, true, false, false, false, false, false, false, false, false, false, false, false, false, false, false, false, false, false, false] rfl rfl (any_of HT_.out (by kernel_rfl)) (fun _ _ _ h => h) (Or.inl ⟨by rfl, ?_⟩) ?_ ?_
      rotate_left
      · intro w'
        go_simp
        with_reducible rfl
      rotate_left
      · simp only [Act.put, List.setIfInBounds_toArray, List.set_cons_zero, List.set_cons_succ, i64_w, i32_w]
        rfl
      refine pure_ (i := 12) (N := some 256) (v := ?_) (a' := ?_) #[true, true, true, true, true, true, true, true, true, true, true, true, true, false, false, false, false, false, false, false, false, false, false, false, false, false, false, false, false, false] rfl rfl (any_of HT_.out (by kernel_rfl)) (fun _ _ _ h => h) (Or.inl ⟨by rfl, ?_⟩) ?_ ?_
      rotate_left
      · intro w'
        go_simp
        with_reducible rfl
      rotate_left
      · simp only [Act.put, List.setIfInBounds_toArray, List.set_cons_zero, List.set_cons_succ, i64_w, i32_w]
        rfl
      refine pure_ (i := 13) (N := some 257) (v := ?_) (a' := ?_) #[true, true, true, true, true, true, true, true, true, true, true, true, true, true, false, false, false, false, false, false, false, false, false, false, false, false, false, false, false, false] rfl rfl (any_of HT_.out (by kernel_rfl)) (fun _ _ _ h => h) (Or.inl ⟨by rfl, ?_⟩) ?_ ?_
      rotate_left
      · intro w'
        go_simp
        with_reducible rfl
      rotate_left
      · simp only [Act.put, List.setIfInBounds_toArray, List.set_cons_zero, List.set_cons_succ, i64_w, i32_w]
        rfl
      refine pure_ (i := 14) (N := some 258) (v := ?_) (a' := ?_) #[true, true, true, true, true, true, true, true, true, true, true, true, true, true, true, false, false, false, false, false, false, false, false, false, false, false, false, false, false, false] rfl rfl (any_of HT_.out (by kernel_rfl)) (fun _ _ _ h => h) (Or.inl ⟨by rfl, ?_⟩) ?_ ?_
      rotate_left
      · intro w'
        go_simp
        with_reducible rfl
      rotate_left
      · simp only [Act.put, List.setIfInBounds_toArray, List.set_cons_zero, List.set_cons_succ, i64_w, i32_w]
        rfl
      refine pure_ (i := 15) (N := some 259) (v := ?_) (a' := ?_) #[true, true, true, true, true, true, true, true, true, true, true, true, true, true, true, true, false, false, false, false, false, false, false, false, false, false, false, false, false, false] rfl rfl (any_of HT_.out (by kernel_rfl)) (fun _ _ _ h => h) (Or.inl ⟨by rfl, ?_⟩) ?_ ?_
      rotate_left
      · intro w'
        go_simp
        with_reducible rfl
      rotate_left
      · simp only [Act.put, List.setIfInBounds_toArray, List.set_cons_zero, List.set_cons_succ, i64_w, i32_w]
        rfl
      refine pure_ (i := 16) (N := some 260) (v := ?_) (a' := ?_) #[true, true, true, true, true, true, true, true, true, true, true, true, true, true, true, true, true, false, false, false, false, false, false, false, false, false, false, false, false, false] rfl rfl (any_of HT_.out (by kernel_rfl)) (fun _ _ _ h => h) (Or.inl ⟨by rfl, ?_⟩) ?_ ?_
      rotate_left
      · intro w'
        go_simp
        with_reducible rfl
      rotate_left
      · simp only [Act.put, List.setIfInBounds_toArray, List.set_cons_zero, List.set_cons_succ, i64_w, i32_w]
        rfl
      refine pure_ (i := 17) (N := some 261) (v := ?_) (a' := ?_) #[true, true, true, true, true, true, true, true, true, true, true, true, true, true, true, true, true, true, false, false, false, false, false, false, false, false, false, false, false, false] rfl rfl (any_of HT_.out (by kernel_rfl)) (fun _ _ _ h => h) (Or.inl ⟨by rfl, ?_⟩) ?_ ?_
      rotate_left
      · intro w'
        go_simp
        with_reducible rfl
      rotate_left
      · simp only [Act.put, List.setIfInBounds_toArray, List.set_cons_zero, List.set_cons_succ, i64_w, i32_w]
        rfl
      refine pure_ (i := 18) (N := some 262) (v := ?_) (a' := ?_) #[true, true, true, true, true, true, true, true, true, true, true, true, true, true, true, true, true, true, true, false, false, false, false, false, false, false, false, false, false, false] rfl rfl (any_of HT_.out (by kernel_rfl)) (fun _ _ _ h => h) (Or.inl ⟨by rfl, ?_⟩) ?_ ?_
      rotate_left
      · intro w'
        go_simp
        with_reducible rfl
      rotate_left
      · simp only [Act.put, List.setIfInBounds_toArray, List.set_cons_zero, List.set_cons_succ, i64_w, i32_w]
        rfl
      refine pure_ (i := 19) (N := some 263) (v := ?_) (a' := ?_) #[true, true, true, true, true, true, true, true, true, true, true, true, true, true, true, true, true, true, true, true, false, false, false, false, false, false, false, false, false, false] rfl rfl (any_of HT_.out (by kernel_rfl)) (fun _ _ _ h => h) (Or.inl ⟨by rfl, ?_⟩) ?_ ?_
      rotate_left
      · intro w'
        go_simp
        with_reducible rfl
      rotate_left
      · simp only [Act.put, List.setIfInBounds_toArray, List.set_cons_zero, List.set_cons_succ, i64_w, i32_w]
        rfl
      refine pure_ (i := 20) (N := some 264) (v := ?_) (a' := ?_) #[true, true, true, true, true, true, true, true, true, true, true, true, true, true, true, true, true, true, true, true, true, false, false, false, false, false, false, false, false, false] rfl rfl (any_of HT_.out (by kernel_rfl)) (fun _ _ _ h => h) (Or.inl ⟨by rfl, ?_⟩) ?_ ?_
      rotate_left
      · intro w'
        go_simp
        with_reducible rfl
      rotate_left
      · simp only [Act.put, List.setIfInBounds_toArray, List.set_cons_zero, List.set_cons_succ, i64_w, i32_w]
        rfl
      refine pure_ (i := 21) (N := some 265) (v := ?_) (a' := ?_) #[true, true, true, true, true, true, true, true, true, true, true, true, true, true, true, true, true, true, true, true, true, true, false, false, false, false, false, false, false, false] rfl rfl (any_of HT_.out (by kernel_rfl)) (fun _ _ _ h => h) (Or.inl ⟨by rfl, ?_⟩) ?_ ?_
      rotate_left
      · intro w'
        go_simp
        with_reducible rfl
      rotate_left
      · simp only [Act.put, List.setIfInBounds_toArray, List.set_cons_zero, List.set_cons_succ, i64_w, i32_w]
        rfl
      refine pure_ (i := 22) (N := some 266) (v := ?_) (a' := ?_) #[true, true, true, true, true, true, true, true, true, true, true, true, true, true, true, true, true, true, true, true, true, true, true, false, false, false, false, false, false, false] rfl rfl (any_of HT_.out (by kernel_rfl)) (fun _ _ _ h => h) (Or.inl ⟨by rfl, ?_⟩) ?_ ?_
      rotate_left
      · intro w'
        go_simp
        with_reducible rfl
      rotate_left
      · simp only [Act.put, List.setIfInBounds_toArray, List.set_cons_zero, List.set_cons_succ, i64_w, i32_w]
        rfl
      refine pure_ (i := 23) (N := some 267) (v := ?_) (a' := ?_) #[true, true, true, true, true, true, true, true, true, true, true, true, true, true, true, true, true, true, true, true, true, true, true, true, false, false, false, false, false, false] rfl rfl (any_of HT_.out (by kernel_rfl)) (fun _ _ _ h => h) (Or.inl ⟨by rfl, ?_⟩) ?_ ?_
      rotate_left
      · intro w'
        go_simp
        with_reducible rfl
      rotate_left
      · simp only [Act.put, List.setIfInBounds_toArray, List.set_cons_zero, List.set_cons_succ, i64_w, i32_w]
        rfl
      refine pure_ (i := 24) (N := some 268) (v := ?_) (a' := ?_) #[true, true, true, true, true, true, true, true, true, true, true, true, true, true, true, true, true, true, true, true, true, true, true, true, true, false, false, false, false, false] rfl rfl (any_of HT_.out (by kernel_rfl)) (fun _ _ _ h => h) (Or.inl ⟨by rfl, ?_⟩) ?_ ?_
      rotate_left
      · intro w'
        go_simp
        with_reducible rfl
      rotate_left
      · simp only [Act.put, List.setIfInBounds_toArray, List.set_cons_zero, List.set_cons_succ, i64_w, i32_w]
        rfl
      refine pure_ (i := 25) (N := some 269) (v := ?_) (a' := ?_) #[true, true, true, true, true, true, true, true, true, true, true, true, true, true, true, true, true, true, true, true, true, true, true, true, true, true, false, false, false, false] rfl rfl (any_of HT_.out (by kernel_rfl)) (fun _ _ _ h => h) (Or.inl ⟨by rfl, ?_⟩) ?_ ?_
      rotate_left
      · intro w'
        go_simp
        with_reducible rfl
      rotate_left
      · simp only [Act.put, List.setIfInBounds_toArray, List.set_cons_zero, List.set_cons_succ, i64_w, i32_w]
        rfl
      refine pure_ (i := 26) (N := some 270) (v := ?_) (a' := ?_) #[true, true, true, true, true, true, true, true, true, true, true, true, true, true, true, true, true, true, true, true, true, true, true, true, true, true, true, false, false, false] rfl rfl (any_of HT_.out (by kernel_rfl)) (fun _ _ _ h => h) (Or.inl ⟨by rfl, ?_⟩) ?_ ?_
      rotate_left
      · intro w'
        go_simp
        with_reducible rfl
      rotate_left
      · simp only [Act.put, List.setIfInBounds_toArray, List.set_cons_zero, List.set_cons_succ, i64_w, i32_w]
        rfl
      refine pure_ (i := 27) (N := some 271) (v := ?_) (a' := ?_) #[true, true, true, true, true, true, true, true, true, true, true, true, true, true, true, true, true, true, true, true, true, true, true, true, true, true, true, true, false, false] rfl rfl (any_of HT_.out (by kernel_rfl)) (fun _ _ _ h => h) (Or.inl ⟨by rfl, ?_⟩) ?_ ?_
      rotate_left
      · intro w'
        go_simp
        with_reducible rfl
      rotate_left
      · simp only [Act.put, List.setIfInBounds_toArray, List.set_cons_zero, List.set_cons_succ, i64_w, i32_w]
        rfl
      refine pure_ (i := 28) (N := some 272) (v := ?_) (a' := ?_) #[true, true, true, true, true, true, true, true, true, true, true, true, true, true, true, true, true, true, true, true, true, true, true, true, true, true, true, true, true, false] rfl rfl (any_of HT_.out (by kernel_rfl)) (fun _ _ _ h => h) (Or.inl ⟨by rfl, ?_⟩) ?_ ?_
      rotate_left
      · intro w'
        go_simp
        with_reducible rfl
      rotate_left
      · simp only [Act.put, List.setIfInBounds_toArray, List.set_cons_zero, List.set_cons_succ, i64_w, i32_w]
        rfl
      refine pure_ (i := 29) (N := some 273) (v := ?_) (a' := ?_) #[true, true, true, true, true, true, true, true, true, true, true, true, true, true, true, true, true, true, true, true, true, true, true, true, true, true, true, true, true, true] rfl rfl (any_of HT_.out (by kernel_rfl)) (fun _ _ _ h => h) (Or.inl ⟨by rfl, ?_⟩) ?_ ?_
      rotate_left
      · intro w'
        go_simp
        with_reducible rfl
      rotate_left
      · simp only [Act.put, List.setIfInBounds_toArray, List.set_cons_zero, List.set_cons_succ, i64_w, i32_w]
        rfl
      refine done_ (done_of HT_.out (by kernel_rfl)) ?_
      try go_wp2
      go_meet
      case rel => exact ⟨_, H', ⟨by have := HJ9.out; have := HJ46.out; have := HJ84.out; first | omega | exact Nat.le_refl _⟩, ⟨by exact lB HB.out⟩⟩
     case rest =>
     as_aux_lemma =>
     clear HC114
     (try clear c113)
     obtain ⟨kq, HA, HJ113, HB⟩ := hcut
     cases kq with
     | zero => exact absurd HA.out (by simp [laws_FnConjugatesFound.j3])
     | succ kj113 =>
      have H := HA.out
      clear HA
      simp only [laws_FnConjugatesFound.j3] at H
      replace H := Option.bind_eq_some_iff.mp H
      obtain ⟨⟨t399, t400, t401⟩, A1520, H⟩ := H
      (try dsimp only at H)
      have A152 := Aside0.mk A1520
      clear A1520
      replace H := Option.bind_eq_some_iff.mp H
      obtain ⟨⟨t405, t406, t407⟩, A1530, H⟩ := H
      (try dsimp only at H)
      have A153 := Aside0.mk A1530
      clear A1530
      replace H := Option.bind_eq_some_iff.mp H
      obtain ⟨⟨t409, t410, t411⟩, A1540, H⟩ := H
      (try dsimp only at H)
      have A154 := Aside0.mk A1540
      clear A1540
      have HC155 := Aside0.mk H
      clear H
      go_upto_region 32 with (first | ((with_reducible refine gate_callee (f := 18) rfl ?_); refine goesL_ (some 276) rfl rfl Tryz.func18 (by kernel_rfl) rfl #[.slice A1 l1.length c1] rfl lm ?_; (with_reducible refine (spec_DrawConjugateByWord.calls kj113 _ _ l1 t399 t400 t401 _ ?side1 ?side2 A152.out).mono ?_); (case side1 => repeat (first | exact (Kd.C_below HR1.out HB.out) | (with_reducible refine Kd.C_alloc ?_ _) | (with_reducible refine Kd.C_drewN ?_ _) | (with_reducible refine Kd.C_drew ?_))); (case side2 => exact HC1.out); rintro e w156 ⟨v402, rfl, ho0, hb⟩; refine ⟨_, rfl, ?_⟩; have n0_ := Aside0.mk (Kd.R_lower ho0 (below_size (lB HB.out))); have n1_ := Aside0.mk (below_step (lB HB.out) hb); clear HB; have HO403 := n0_; have HB := n1_; clear n0_ n1_; (try clear hb); (try clear hb2); (try clear hk); (try clear hi); (try clear ho0)) | ((with_reducible refine gate_dst (N := 42) rfl ?_); refine box_event ?hg (N := 42) ?hd (cs := #[.string (⟨#[]⟩ : ByteArray), .string (⟨#[]⟩ : ByteArray)]) (t := 25) ?hr ?_; (case hd => rfl); (case hg => rfl); (case hr => exact lr); intro gb404 hg w157 hbox hb; have n0_ := Aside0.mk (Kd.R_below (by (with_reducible repeat (first | apply Kd.R_alloc | apply Kd.R_drewN | apply Kd.R_drew)); exact HO403.out) hb); have n1_ := Aside0.mk (below_step (lB HB.out) hb); have n2_ := Aside0.mk (hbox); have n3_ := gw hg (lB HB.out); have n4_ := gw hg (lB HB.out); clear HO403 HB; have HO403 := n0_; have HB := n1_; have BK404 := n2_; have GW404 := n3_; have GE404 := n4_; clear n0_ n1_ n2_ n3_ n4_; clear hb hbox hg; have hcz158_0 : w157.cell? ⟨gb404, 0, none⟩ = some (.string (⟨#[]⟩ : ByteArray)) := (blk_cell BK404.out 0).trans rfl; have hcz158_1 : w157.cell? ⟨gb404, 1, none⟩ = some (.string (⟨#[]⟩ : ByteArray)) := (blk_cell BK404.out 1).trans rfl; have hfz158_0 := blk_frozen BK404.out 0; have hfz158_1 := blk_frozen BK404.out 1; obtain ⟨Ao159, co159, eo159⟩ := Kd.R_slice HO403.out; subst eo159) | ((with_reducible refine gate_callee (f := 19) rfl ?_); refine goesL_ (some 282) rfl rfl Tryz.func19 (by kernel_rfl) rfl #[.agg #[.string t399, .string t400], .slice Ao159 t401.length co159] rfl lm ?_; (with_reducible refine (impl_ConjugateByWord.calls t399 t400 _ _ t401 t405 t406 t407 _ ?side1 ?side2 A153.out).mono ?_); (case side1 => refine (Kd.R_reads' (e := 3) (base := w.heap.size) (ok := fun k_ => True) (n := t401.length) (c := co159) ?_).2.2; exact (by (with_reducible repeat (first | apply Kd.R_alloc | apply Kd.R_drewN | apply Kd.R_drew)); exact (Kd.R_mono (Kd.R_far (p := ⟨gb404, 1, none⟩) (Kd.R_far (p := ⟨gb404, 0, none⟩) (Kd.R_types HO403.out BK404.out (by decide)) (fun _ hk => hk.2) (.string t399)) (fun _ hk => hk.2) (.string t400)) (fun _ h_ => h_.1)))); (case side2 => exact (Kd.R_reads' HO403.out).2.1); rintro e w160 ⟨rfl, hb⟩; refine ⟨_, rfl, ?_⟩; have n0_ := Aside0.mk (Kd.R_below (by (with_reducible repeat (first | apply Kd.R_alloc | apply Kd.R_drewN | apply Kd.R_drew)); exact (Kd.R_mono (Kd.R_far (p := ⟨gb404, 1, none⟩) (Kd.R_far (p := ⟨gb404, 0, none⟩) (Kd.R_types HO403.out BK404.out (by decide)) (fun _ hk => hk.2) (.string t399)) (fun _ hk => hk.2) (.string t400)) (fun _ h_ => h_.1))) hb); have n1_ := Aside0.mk (blk_below (g := gb404) (o := .cells #[.string t399, .string t400] 25 (0, 0)) (by (with_reducible repeat (first | refine blk_drewN ?_ _ | refine blk_drew ?_ | refine blk_alloc ?_ _)); refine blk_put (cs := #[.string t399, .string (⟨#[]⟩ : ByteArray)]) ?_ 1 _ rfl; (with_reducible repeat (first | refine blk_drewN ?_ _ | refine blk_drew ?_ | refine blk_alloc ?_ _)); refine blk_put (cs := #[.string (⟨#[]⟩ : ByteArray), .string (⟨#[]⟩ : ByteArray)]) ?_ 0 _ rfl; exact lb BK404.out) hb); have n2_ := Aside0.mk (below_step (lB HB.out) hb); clear HO403 BK404 HB; have HO403 := n0_; have BK404 := n1_; have HB := n2_; clear n0_ n1_ n2_; (try clear hb); (try clear hb2); (try clear hk); (try clear hi)) | ((with_reducible refine gate_dst (N := 44) rfl ?_); refine box_event ?hg (N := 44) ?hd (cs := #[.string (⟨#[]⟩ : ByteArray), .string (⟨#[]⟩ : ByteArray)]) (t := 25) ?hr ?_; (case hd => rfl); (case hg => rfl); (case hr => exact lr); intro gb408 hg w161 hbox hb; have n0_ := Aside0.mk (Kd.R_below (by (with_reducible repeat (first | apply Kd.R_alloc | apply Kd.R_drewN | apply Kd.R_drew)); exact HO403.out) hb); have n1_ := Aside0.mk (blk_below (lb BK404.out) hb); have n2_ := Aside0.mk (below_step (lB HB.out) hb); have n3_ := Aside0.mk (hbox); have n4_ := gw hg (lB HB.out); have n5_ := gw hg (lB HB.out); have n6_ := na hg (lb BK404.out); have n7_ := nz hg (lb BK404.out); clear HO403 BK404 HB; have HO403 := n0_; have BK404 := n1_; have HB := n2_; have BK408 := n3_; have GW408 := n4_; have GE408 := n5_; have NB404_408 := n6_; have NB408_404 := n7_; clear n0_ n1_ n2_ n3_ n4_ n5_ n6_ n7_; clear hb hbox hg; have hnb162 := NB408_404.out; have hnc162 := NB404_408.out; have hcz163_0 : w161.cell? ⟨gb408, 0, none⟩ = some (.string (⟨#[]⟩ : ByteArray)) := (blk_cell BK408.out 0).trans rfl; have hcz163_1 : w161.cell? ⟨gb408, 1, none⟩ = some (.string (⟨#[]⟩ : ByteArray)) := (blk_cell BK408.out 1).trans rfl; have hfz163_0 := blk_frozen BK408.out 0; have hfz163_1 := blk_frozen BK408.out 1; have hcz164_0 : w161.cell? ⟨gb404, 0, none⟩ = some (.string t399) := (blk_cell BK404.out 0).trans rfl; have hcz164_1 : w161.cell? ⟨gb404, 1, none⟩ = some (.string t400) := (blk_cell BK404.out 1).trans rfl; have hfz164_0 := blk_frozen BK404.out 0; have hfz164_1 := blk_frozen BK404.out 1) | ((with_reducible refine gate_callee (f := 20) rfl ?_); refine goesL_ (some 288) rfl rfl Tryz.func20 (by kernel_rfl) rfl #[.agg #[.string t399, .string t400], .slice Ao159 t401.length co159] rfl lm ?_; (with_reducible refine (spec_ConjugateByWord.calls t399 t400 _ _ t401 t409 t410 t411 _ ?side1 ?side2 A154.out).mono ?_); (case side1 => refine (Kd.R_reads' (e := 3) (base := w.heap.size) (ok := fun k_ => True) (n := t401.length) (c := co159) ?_).2.2; exact (by (with_reducible repeat (first | apply Kd.R_alloc | apply Kd.R_drewN | apply Kd.R_drew)); exact (Kd.R_mono (Kd.R_far (p := ⟨gb408, 1, none⟩) (Kd.R_far (p := ⟨gb408, 0, none⟩) (Kd.R_types HO403.out BK408.out (by decide)) (fun _ hk => hk.2) (.string t405)) (fun _ hk => hk.2) (.string t406)) (fun _ h_ => h_.1)))); (case side2 => exact (Kd.R_reads' HO403.out).2.1); rintro e w165 ⟨rfl, hb⟩; refine ⟨_, rfl, ?_⟩; have n0_ := Aside0.mk (Kd.R_below (by (with_reducible repeat (first | apply Kd.R_alloc | apply Kd.R_drewN | apply Kd.R_drew)); exact (Kd.R_mono (Kd.R_far (p := ⟨gb408, 1, none⟩) (Kd.R_far (p := ⟨gb408, 0, none⟩) (Kd.R_types HO403.out BK408.out (by decide)) (fun _ hk => hk.2) (.string t405)) (fun _ hk => hk.2) (.string t406)) (fun _ h_ => h_.1))) hb); have n1_ := Aside0.mk (blk_below (g := gb404) (o := .cells #[.string t399, .string t400] 25 (0, 0)) (by (with_reducible repeat (first | refine blk_drewN ?_ _ | refine blk_drew ?_ | refine blk_alloc ?_ _)); refine blk_far ?_ NB404_408.out _; (with_reducible repeat (first | refine blk_drewN ?_ _ | refine blk_drew ?_ | refine blk_alloc ?_ _)); refine blk_far ?_ NB404_408.out _; exact lb BK404.out) hb); have n2_ := Aside0.mk (blk_below (g := gb408) (o := .cells #[.string t405, .string t406] 25 (0, 0)) (by (with_reducible repeat (first | refine blk_drewN ?_ _ | refine blk_drew ?_ | refine blk_alloc ?_ _)); refine blk_put (cs := #[.string t405, .string (⟨#[]⟩ : ByteArray)]) ?_ 1 _ rfl; (with_reducible repeat (first | refine blk_drewN ?_ _ | refine blk_drew ?_ | refine blk_alloc ?_ _)); refine blk_put (cs := #[.string (⟨#[]⟩ : ByteArray), .string (⟨#[]⟩ : ByteArray)]) ?_ 0 _ rfl; exact lb BK408.out) hb); have n3_ := Aside0.mk (below_step (lB HB.out) hb); clear HO403 BK404 BK408 HB; have HO403 := n0_; have BK404 := n1_; have BK408 := n2_; have HB := n3_; clear n0_ n1_ n2_ n3_; (try clear hb); (try clear hb2); (try clear hk); (try clear hi)) | ((with_reducible refine gate_dst (N := 46) rfl ?_); refine box_event ?hg (N := 46) ?hd (cs := #[.string (⟨#[]⟩ : ByteArray), .string (⟨#[]⟩ : ByteArray)]) (t := 25) ?hr ?_; (case hd => rfl); (case hg => rfl); (case hr => exact lr); intro gb412 hg w166 hbox hb; have n0_ := Aside0.mk (Kd.R_below (by (with_reducible repeat (first | apply Kd.R_alloc | apply Kd.R_drewN | apply Kd.R_drew)); exact HO403.out) hb); have n1_ := Aside0.mk (blk_below (lb BK404.out) hb); have n2_ := Aside0.mk (blk_below (lb BK408.out) hb); have n3_ := Aside0.mk (below_step (lB HB.out) hb); have n4_ := Aside0.mk (hbox); have n5_ := gw hg (lB HB.out); have n6_ := gw hg (lB HB.out); have n7_ := na hg (lb BK404.out); have n8_ := nz hg (lb BK404.out); have n9_ := na hg (lb BK408.out); have n10_ := nz hg (lb BK408.out); clear HO403 BK404 BK408 HB; have HO403 := n0_; have BK404 := n1_; have BK408 := n2_; have HB := n3_; have BK412 := n4_; have GW412 := n5_; have GE412 := n6_; have NB404_412 := n7_; have NB412_404 := n8_; have NB408_412 := n9_; have NB412_408 := n10_; clear n0_ n1_ n2_ n3_ n4_ n5_ n6_ n7_ n8_ n9_ n10_; clear hb hbox hg; have hnb167 := NB412_404.out; have hnc167 := NB404_412.out; have hnb168 := NB412_408.out; have hnc168 := NB408_412.out; have hcz169_0 : w166.cell? ⟨gb412, 0, none⟩ = some (.string (⟨#[]⟩ : ByteArray)) := (blk_cell BK412.out 0).trans rfl; have hcz169_1 : w166.cell? ⟨gb412, 1, none⟩ = some (.string (⟨#[]⟩ : ByteArray)) := (blk_cell BK412.out 1).trans rfl; have hfz169_0 := blk_frozen BK412.out 0; have hfz169_1 := blk_frozen BK412.out 1))
      (try simp only [Act.put, List.setIfInBounds_toArray, List.set_cons_zero, List.set_cons_succ])
      go_cut [298] (fun v298 wc => ∃ (kq : Nat) (x298_154 : Bool), v298 = .bool x298_154 ∧ Aside0 (laws_FnConjugatesFound.j4 kq l1 t401 t407 x298_154 t399 t400 t405 t406 = some r) ∧ Aside0 (kq ≤ kj113) ∧ Aside0 (Kd.R (Kd.int .i64) 3 wc w.heap.size (fun _ => True) (.slice Ao159 t401.length co159) t401) ∧ Aside0 (wc.heap[gb404]? = some (.cells #[.string t399, .string t400] 25 (0, 0))) ∧ Aside0 (wc.heap[gb408]? = some (.cells #[.string t405, .string t406] 25 (0, 0))) ∧ Aside0 (Below w.heap.size w wc))
      case first =>
       as_aux_lemma =>
       have H := HC155.out
       clear HC155
       by_cases c170 : (t407 != t411) = true
       · rw [if_pos c170] at H
         have c170b0 : (t407 != t411) = true := c170
         (try (have c170b1 : decide (t407 = t411) = false := by simpa using c170))
         (try (have c170b2 : (t407 == t411) = false := by simpa using c170))
         (try (have c170b3 : ¬ (t407 = t411) := by simpa using c170))
         clear c170
         (first | rw [c170b0] | (simp only [i64_w, i32_w]; rw [c170b0]) | skip)
         have H' := Aside0.mk H
         clear H
         go_wp2
         go_meet
         case rel => exact ⟨_, (true), (by first | rfl | (simp; done) | (simp [*]; done)), H', ⟨by have := HJ9.out; have := HJ46.out; have := HJ84.out; have := HJ113.out; first | omega | exact Nat.le_refl _⟩, ⟨by (with_reducible repeat (first | apply Kd.R_alloc | apply Kd.R_drewN | apply Kd.R_drew)); exact Kd.R_mono (Kd.R_far (p := ⟨gb412, 1, none⟩) (Kd.R_far (p := ⟨gb412, 0, none⟩) (Kd.R_types HO403.out BK412.out (by decide)) (fun _ hk => hk.2) (.string t409)) (fun _ hk => hk.2) (.string t410)) (fun _ hk => trivial)⟩, ⟨by (with_reducible repeat (first | refine blk_drewN ?_ _ | refine blk_drew ?_ | refine blk_alloc ?_ _)); refine blk_far ?_ NB404_412.out _; (with_reducible repeat (first | refine blk_drewN ?_ _ | refine blk_drew ?_ | refine blk_alloc ?_ _)); refine blk_far ?_ NB404_412.out _; exact lb BK404.out⟩, ⟨by (with_reducible repeat (first | refine blk_drewN ?_ _ | refine blk_drew ?_ | refine blk_alloc ?_ _)); refine blk_far ?_ NB408_412.out _; (with_reducible repeat (first | refine blk_drewN ?_ _ | refine blk_drew ?_ | refine blk_alloc ?_ _)); refine blk_far ?_ NB408_412.out _; exact lb BK408.out⟩, ⟨by exact lB HB.out⟩⟩
       rw [if_neg c170] at H
       have c170b0 : (t407 != t411) = false := by simpa using c170
       (try (have c170b1 : decide (t407 = t411) = true := by simpa using c170))
       (try (have c170b2 : (t407 == t411) = true := by simpa using c170))
       clear c170
       (first | rw [c170b0] | (simp only [i64_w, i32_w]; rw [c170b0]) | skip)
       have H' := Aside0.mk H
       clear H
       have hnb171 := NB408_404.out
       have hnc171 := NB404_408.out
       have hnb172 := NB408_412.out
       have hnc172 := NB412_408.out
       have hcz173_0 : w166.cell? ⟨gb408, 0, none⟩ = some (.string t405) := (blk_cell BK408.out 0).trans rfl
       have hcz173_1 : w166.cell? ⟨gb408, 1, none⟩ = some (.string t406) := (blk_cell BK408.out 1).trans rfl
       have hfz173_0 := blk_frozen BK408.out 0
       have hfz173_1 := blk_frozen BK408.out 1
       have hnb174 := NB412_404.out
       have hnc174 := NB404_412.out
       have hcz175_0 : w166.cell? ⟨gb412, 0, none⟩ = some (.string (⟨#[]⟩ : ByteArray)) := (blk_cell BK412.out 0).trans rfl
       have hcz175_1 : w166.cell? ⟨gb412, 1, none⟩ = some (.string (⟨#[]⟩ : ByteArray)) := (blk_cell BK412.out 1).trans rfl
       have hfz175_0 := blk_frozen BK412.out 0
       have hfz175_1 := blk_frozen BK412.out 1
       go_wp2
       go_meet
       case rel => exact ⟨_, ((!(t405.toList == t409.toList) || (!(t406.toList == t410.toList)))), (by first | rfl | (simp; done) | (simp [*]; done)), H', ⟨by have := HJ9.out; have := HJ46.out; have := HJ84.out; have := HJ113.out; first | omega | exact Nat.le_refl _⟩, ⟨by (with_reducible repeat (first | apply Kd.R_alloc | apply Kd.R_drewN | apply Kd.R_drew)); exact Kd.R_mono (Kd.R_far (p := ⟨gb412, 1, none⟩) (Kd.R_far (p := ⟨gb412, 0, none⟩) (Kd.R_types HO403.out BK412.out (by decide)) (fun _ hk => hk.2) (.string t409)) (fun _ hk => hk.2) (.string t410)) (fun _ hk => trivial)⟩, ⟨by (with_reducible repeat (first | refine blk_drewN ?_ _ | refine blk_drew ?_ | refine blk_alloc ?_ _)); refine blk_far ?_ NB404_412.out _; (with_reducible repeat (first | refine blk_drewN ?_ _ | refine blk_drew ?_ | refine blk_alloc ?_ _)); refine blk_far ?_ NB404_412.out _; exact lb BK404.out⟩, ⟨by (with_reducible repeat (first | refine blk_drewN ?_ _ | refine blk_drew ?_ | refine blk_alloc ?_ _)); refine blk_far ?_ NB408_412.out _; (with_reducible repeat (first | refine blk_drewN ?_ _ | refine blk_drew ?_ | refine blk_alloc ?_ _)); refine blk_far ?_ NB408_412.out _; exact lb BK408.out⟩, ⟨by exact lB HB.out⟩⟩
      case rest =>
      as_aux_lemma =>
      clear HC155
      (try clear c1)
      (try clear hcz158_0); (try clear hcz158_1); (try clear hcz163_0); (try clear hcz163_1); (try clear hcz164_0); (try clear hcz164_1); (try clear hcz169_0); (try clear hcz169_1)
      (try clear hfz158_0); (try clear hfz158_1); (try clear hfz163_0); (try clear hfz163_1)
      (try clear hfz164_0); (try clear hfz164_1); (try clear hfz169_0); (try clear hfz169_1)
      obtain ⟨kq, x298_154, rfl, HA, HJ154, HO_43, BK404, BK408, HB⟩ := hcut
      cases kq with
      | zero => exact absurd HA.out (by simp [laws_FnConjugatesFound.j4])
      | succ kj154 =>
       have H := HA.out
       clear HA
       simp only [laws_FnConjugatesFound.j4] at H
       by_cases c176 : x298_154 = true
       · subst c176
         rw [if_pos rfl] at H
         exact absurd ((Option.some.inj H).trans HRT.out) (by decide)
       replace c176 := Bool.eq_false_iff.mpr c176
       subst c176
       rw [if_neg (show ¬ (false = true) by decide)] at H
       have HC177 := Aside0.mk H
       clear H
       go_upto_if 299 with (fail)
       go_cut [] (fun wc => ∃ (kq : Nat), Aside0 (laws_FnConjugatesFound.j5 kq l1 = some r) ∧ Aside0 (kq ≤ kj154) ∧ Aside0 (Below w.heap.size w wc))
       case first =>
        as_aux_lemma =>
        have H := HC177.out
        clear HC177
        by_cases c178 : t407 = true
        rotate_left
        · replace c178 := Bool.eq_false_iff.mpr c178
          subst c178
          rw [if_neg (show ¬ (false = true) by decide)] at H
          have H' := Aside0.mk H
          clear H
          go_wp2
          go_meet
          case rel => exact ⟨_, H', ⟨by have := HJ9.out; have := HJ46.out; have := HJ84.out; have := HJ113.out; have := HJ154.out; first | omega | exact Nat.le_refl _⟩, ⟨by exact lB HB.out⟩⟩
        subst c178
        rw [if_pos rfl] at H
        replace H := Option.bind_eq_some_iff.mp H
        obtain ⟨⟨t413, t414, t415⟩, A1790, H⟩ := H
        (try dsimp only at H)
        have A179 := Aside0.mk A1790
        clear A1790
        replace H := Option.bind_eq_some_iff.mp H
        obtain ⟨⟨t417, t418, t419⟩, A1800, H⟩ := H
        (try dsimp only at H)
        have A180 := Aside0.mk A1800
        clear A1800
        by_cases c181 : t415 = true
        rotate_left
        · replace c181 := Bool.eq_false_iff.mpr c181
          subst c181
          rw [if_neg (show ¬ (false = true) by decide)] at H
          exact absurd ((Option.some.inj H).trans HRT.out) (by decide)
        subst c181
        rw [if_pos rfl] at H
        by_cases c182 : t419 = true
        rotate_left
        · replace c182 := Bool.eq_false_iff.mpr c182
          subst c182
          rw [if_neg (show ¬ (false = true) by decide)] at H
          exact absurd ((Option.some.inj H).trans HRT.out) (by decide)
        subst c182
        rw [if_pos rfl] at H
        by_cases c183 : (!(t417.toList == t405.toList) || (!(t418.toList == t406.toList))) = true
        · rw [if_pos c183] at H
          have c183b0 : (!(t417.toList == t405.toList) || (!(t418.toList == t406.toList))) = true := c183
          clear c183
          (first | rw [c183b0] | (simp only [i64_w, i32_w]; rw [c183b0]) | skip)
          exact absurd ((Option.some.inj H).trans HRT.out) (by decide)
        rw [if_neg c183] at H
        have c183b0 : (!(t417.toList == t405.toList) || (!(t418.toList == t406.toList))) = false := by simpa using c183
        clear c183
        (first | rw [c183b0] | (simp only [i64_w, i32_w]; rw [c183b0]) | skip)
        have H' := Aside0.mk H
        clear H
        go_wp2_with (first | ((with_reducible refine gate_callee (f := 11) rfl ?_); refine goesL_ (some 302) rfl rfl Tryz.func11 (by kernel_rfl) rfl #[.slice Ao159 t401.length co159] rfl lm ?_; (with_reducible refine (impl_PairOfWord.calls _ _ t401 t413 t414 true _ ?side1 ?side2 A179.out).mono ?_); (case side1 => repeat (first | exact (Kd.R_reads' HO_43.out).2.2 | (with_reducible refine Kd.C_alloc ?_ _) | (with_reducible refine Kd.C_drewN ?_ _) | (with_reducible refine Kd.C_drew ?_))); (case side2 => exact (Kd.R_reads' HO_43.out).2.1); rintro e w184 ⟨rfl, hb⟩; refine ⟨_, rfl, ?_⟩; have n0_ := Aside0.mk (Kd.R_below (by (with_reducible repeat (first | apply Kd.R_alloc | apply Kd.R_drewN | apply Kd.R_drew)); exact HO_43.out) hb); have n1_ := Aside0.mk (blk_below (lb BK404.out) hb); have n2_ := Aside0.mk (blk_below (lb BK408.out) hb); have n3_ := Aside0.mk (below_step (lB HB.out) hb); clear HO_43 BK404 BK408 HB; have HO_43 := n0_; have BK404 := n1_; have BK408 := n2_; have HB := n3_; clear n0_ n1_ n2_ n3_; (try clear hb); (try clear hb2); (try clear hk); (try clear hi)) | ((with_reducible refine gate_dst (N := 48) rfl ?_); refine box_event ?hg (N := 48) ?hd (cs := #[.string (⟨#[]⟩ : ByteArray), .string (⟨#[]⟩ : ByteArray)]) (t := 25) ?hr ?_; (case hd => rfl); (case hg => rfl); (case hr => exact lr); intro gb416 hg w185 hbox hb; have n0_ := Aside0.mk (Kd.R_below (by (with_reducible repeat (first | apply Kd.R_alloc | apply Kd.R_drewN | apply Kd.R_drew)); exact HO_43.out) hb); have n1_ := Aside0.mk (blk_below (lb BK404.out) hb); have n2_ := Aside0.mk (blk_below (lb BK408.out) hb); have n3_ := Aside0.mk (below_step (lB HB.out) hb); have n4_ := Aside0.mk (hbox); have n5_ := gw hg (lB HB.out); have n6_ := gw hg (lB HB.out); have n7_ := na hg (lb BK404.out); have n8_ := nz hg (lb BK404.out); have n9_ := na hg (lb BK408.out); have n10_ := nz hg (lb BK408.out); clear HO_43 BK404 BK408 HB; have HO_43 := n0_; have BK404 := n1_; have BK408 := n2_; have HB := n3_; have BK416 := n4_; have GW416 := n5_; have GE416 := n6_; have NB404_416 := n7_; have NB416_404 := n8_; have NB408_416 := n9_; have NB416_408 := n10_; clear n0_ n1_ n2_ n3_ n4_ n5_ n6_ n7_ n8_ n9_ n10_; clear hb hbox hg; have hnb186 := NB416_404.out; have hnc186 := NB404_416.out; have hnb187 := NB416_408.out; have hnc187 := NB408_416.out; have hcz188_0 : w185.cell? ⟨gb416, 0, none⟩ = some (.string (⟨#[]⟩ : ByteArray)) := (blk_cell BK416.out 0).trans rfl; have hcz188_1 : w185.cell? ⟨gb416, 1, none⟩ = some (.string (⟨#[]⟩ : ByteArray)) := (blk_cell BK416.out 1).trans rfl; have hfz188_0 := blk_frozen BK416.out 0; have hfz188_1 := blk_frozen BK416.out 1; have hnb189 := NB404_408.out; have hnc189 := NB408_404.out; have hcz190_0 : w185.cell? ⟨gb404, 0, none⟩ = some (.string t399) := (blk_cell BK404.out 0).trans rfl; have hcz190_1 : w185.cell? ⟨gb404, 1, none⟩ = some (.string t400) := (blk_cell BK404.out 1).trans rfl; have hfz190_0 := blk_frozen BK404.out 0; have hfz190_1 := blk_frozen BK404.out 1) | ((with_reducible refine gate_callee (f := 12) rfl ?_); refine goesL_ (some 308) rfl rfl Tryz.func12 (by kernel_rfl) rfl #[.agg #[.string t399, .string t400], .agg #[.string t413, .string t414]] rfl lm ?_; (with_reducible refine (impl_ConjugatePair.calls t399 t400 t413 t414 t417 t418 true _ A180.out).mono ?_); rintro e w191 ⟨rfl, hb⟩; refine ⟨_, rfl, ?_⟩; have n0_ := Aside0.mk (Kd.R_below (by (with_reducible repeat (first | apply Kd.R_alloc | apply Kd.R_drewN | apply Kd.R_drew)); exact (Kd.R_mono (Kd.R_far (p := ⟨gb416, 1, none⟩) (Kd.R_far (p := ⟨gb416, 0, none⟩) (Kd.R_types HO_43.out BK416.out (by decide)) (fun _ hk => hk.2) (.string t413)) (fun _ hk => hk.2) (.string t414)) (fun _ h_ => h_.1))) hb); have n1_ := Aside0.mk (blk_below (g := gb404) (o := .cells #[.string t399, .string t400] 25 (0, 0)) (by (with_reducible repeat (first | refine blk_drewN ?_ _ | refine blk_drew ?_ | refine blk_alloc ?_ _)); refine blk_far ?_ NB404_416.out _; (with_reducible repeat (first | refine blk_drewN ?_ _ | refine blk_drew ?_ | refine blk_alloc ?_ _)); refine blk_far ?_ NB404_416.out _; exact lb BK404.out) hb); have n2_ := Aside0.mk (blk_below (g := gb408) (o := .cells #[.string t405, .string t406] 25 (0, 0)) (by (with_reducible repeat (first | refine blk_drewN ?_ _ | refine blk_drew ?_ | refine blk_alloc ?_ _)); refine blk_far ?_ NB408_416.out _; (with_reducible repeat (first | refine blk_drewN ?_ _ | refine blk_drew ?_ | refine blk_alloc ?_ _)); refine blk_far ?_ NB408_416.out _; exact lb BK408.out) hb); have n3_ := Aside0.mk (blk_below (g := gb416) (o := .cells #[.string t413, .string t414] 25 (0, 0)) (by (with_reducible repeat (first | refine blk_drewN ?_ _ | refine blk_drew ?_ | refine blk_alloc ?_ _)); refine blk_put (cs := #[.string t413, .string (⟨#[]⟩ : ByteArray)]) ?_ 1 _ rfl; (with_reducible repeat (first | refine blk_drewN ?_ _ | refine blk_drew ?_ | refine blk_alloc ?_ _)); refine blk_put (cs := #[.string (⟨#[]⟩ : ByteArray), .string (⟨#[]⟩ : ByteArray)]) ?_ 0 _ rfl; exact lb BK416.out) hb); have n4_ := Aside0.mk (below_step (lB HB.out) hb); clear HO_43 BK404 BK408 BK416 HB; have HO_43 := n0_; have BK404 := n1_; have BK408 := n2_; have BK416 := n3_; have HB := n4_; clear n0_ n1_ n2_ n3_ n4_; (try clear hb); (try clear hb2); (try clear hk); (try clear hi)) | ((with_reducible refine gate_dst (N := 50) rfl ?_); refine box_event ?hg (N := 50) ?hd (cs := #[.string (⟨#[]⟩ : ByteArray), .string (⟨#[]⟩ : ByteArray)]) (t := 25) ?hr ?_; (case hd => rfl); (case hg => rfl); (case hr => exact lr); intro gb420 hg w192 hbox hb; have n0_ := Aside0.mk (Kd.R_below (by (with_reducible repeat (first | apply Kd.R_alloc | apply Kd.R_drewN | apply Kd.R_drew)); exact HO_43.out) hb); have n1_ := Aside0.mk (blk_below (lb BK404.out) hb); have n2_ := Aside0.mk (blk_below (lb BK408.out) hb); have n3_ := Aside0.mk (blk_below (lb BK416.out) hb); have n4_ := Aside0.mk (below_step (lB HB.out) hb); have n5_ := Aside0.mk (hbox); have n6_ := gw hg (lB HB.out); have n7_ := gw hg (lB HB.out); have n8_ := na hg (lb BK404.out); have n9_ := nz hg (lb BK404.out); have n10_ := na hg (lb BK408.out); have n11_ := nz hg (lb BK408.out); have n12_ := na hg (lb BK416.out); have n13_ := nz hg (lb BK416.out); clear HO_43 BK404 BK408 BK416 HB; have HO_43 := n0_; have BK404 := n1_; have BK408 := n2_; have BK416 := n3_; have HB := n4_; have BK420 := n5_; have GW420 := n6_; have GE420 := n7_; have NB404_420 := n8_; have NB420_404 := n9_; have NB408_420 := n10_; have NB420_408 := n11_; have NB416_420 := n12_; have NB420_416 := n13_; clear n0_ n1_ n2_ n3_ n4_ n5_ n6_ n7_ n8_ n9_ n10_ n11_ n12_ n13_; clear hb hbox hg; have hnb193 := NB420_404.out; have hnc193 := NB404_420.out; have hnb194 := NB420_408.out; have hnc194 := NB408_420.out; have hnb195 := NB420_416.out; have hnc195 := NB416_420.out; have hcz196_0 : w192.cell? ⟨gb420, 0, none⟩ = some (.string (⟨#[]⟩ : ByteArray)) := (blk_cell BK420.out 0).trans rfl; have hcz196_1 : w192.cell? ⟨gb420, 1, none⟩ = some (.string (⟨#[]⟩ : ByteArray)) := (blk_cell BK420.out 1).trans rfl; have hfz196_0 := blk_frozen BK420.out 0; have hfz196_1 := blk_frozen BK420.out 1; have hcz197_0 : w192.cell? ⟨gb408, 0, none⟩ = some (.string t405) := (blk_cell BK408.out 0).trans rfl; have hcz197_1 : w192.cell? ⟨gb408, 1, none⟩ = some (.string t406) := (blk_cell BK408.out 1).trans rfl; have hfz197_0 := blk_frozen BK408.out 0; have hfz197_1 := blk_frozen BK408.out 1))
        go_meet
        case rel => exact ⟨_, H', ⟨by have := HJ9.out; have := HJ46.out; have := HJ84.out; have := HJ113.out; have := HJ154.out; first | omega | exact Nat.le_refl _⟩, ⟨by exact lB HB.out⟩⟩
       case rest =>
       as_aux_lemma =>
       clear HC177
       (try clear c176)
       obtain ⟨kq, HA, HJ176, HB⟩ := hcut
       cases kq with
       | zero => exact absurd HA.out (by simp [laws_FnConjugatesFound.j5])
       | succ kj176 =>
        have H := HA.out
        clear HA
        simp only [laws_FnConjugatesFound.j5] at H
        replace H := Option.bind_eq_some_iff.mp H
        obtain ⟨⟨t421, t422, t423⟩, A1980, H⟩ := H
        (try dsimp only at H)
        have A198 := Aside0.mk A1980
        clear A1980
        replace H := Option.bind_eq_some_iff.mp H
        obtain ⟨⟨t425, t426, t427⟩, A1990, H⟩ := H
        (try dsimp only at H)
        have A199 := Aside0.mk A1990
        clear A1990
        replace H := Option.bind_eq_some_iff.mp H
        obtain ⟨⟨t429, t430, t431⟩, A2000, H⟩ := H
        (try dsimp only at H)
        have A200 := Aside0.mk A2000
        clear A2000
        have HC201 := Aside0.mk H
        clear H
        go_upto_region 42 with (first | ((with_reducible refine gate_callee (f := 21) rfl ?_); refine goesL_ (some 324) rfl rfl Tryz.func21 (by kernel_rfl) rfl #[.slice A1 l1.length c1] rfl lm ?_; (with_reducible refine (spec_DrawLeastConjugate.calls kj176 _ _ l1 t421 t422 t423 _ ?side1 ?side2 A198.out).mono ?_); (case side1 => repeat (first | exact (Kd.C_below HR1.out HB.out) | (with_reducible refine Kd.C_alloc ?_ _) | (with_reducible refine Kd.C_drewN ?_ _) | (with_reducible refine Kd.C_drew ?_))); (case side2 => exact HC1.out); rintro e w202 ⟨rfl, hb⟩; refine ⟨_, rfl, ?_⟩; have n0_ := Aside0.mk (below_step (lB HB.out) hb); clear HB; have HB := n0_; clear n0_; (try clear hb); (try clear hb2); (try clear hk); (try clear hi)) | ((with_reducible refine gate_dst (N := 52) rfl ?_); refine box_event ?hg (N := 52) ?hd (cs := #[.string (⟨#[]⟩ : ByteArray), .string (⟨#[]⟩ : ByteArray)]) (t := 25) ?hr ?_; (case hd => rfl); (case hg => rfl); (case hr => exact lr); intro gb424 hg w203 hbox hb; have n0_ := Aside0.mk (below_step (lB HB.out) hb); have n1_ := Aside0.mk (hbox); have n2_ := gw hg (lB HB.out); have n3_ := gw hg (lB HB.out); clear HB; have HB := n0_; have BK424 := n1_; have GW424 := n2_; have GE424 := n3_; clear n0_ n1_ n2_ n3_; clear hb hbox hg; have hcz204_0 : w203.cell? ⟨gb424, 0, none⟩ = some (.string (⟨#[]⟩ : ByteArray)) := (blk_cell BK424.out 0).trans rfl; have hcz204_1 : w203.cell? ⟨gb424, 1, none⟩ = some (.string (⟨#[]⟩ : ByteArray)) := (blk_cell BK424.out 1).trans rfl; have hfz204_0 := blk_frozen BK424.out 0; have hfz204_1 := blk_frozen BK424.out 1) | ((with_reducible refine gate_callee (f := 22) rfl ?_); refine goesL_ (some 330) rfl rfl Tryz.func22 (by kernel_rfl) rfl #[.agg #[.string t421, .string t422], .int .i64 t423] rfl lm ?_; (with_reducible refine (impl_LeastConjugate.calls t421 t422 t423 t425 t426 t427 _ A199.out).mono ?_); rintro e w205 ⟨rfl, hb⟩; refine ⟨_, rfl, ?_⟩; have n0_ := Aside0.mk (blk_below (g := gb424) (o := .cells #[.string t421, .string t422] 25 (0, 0)) (by (with_reducible repeat (first | refine blk_drewN ?_ _ | refine blk_drew ?_ | refine blk_alloc ?_ _)); refine blk_put (cs := #[.string t421, .string (⟨#[]⟩ : ByteArray)]) ?_ 1 _ rfl; (with_reducible repeat (first | refine blk_drewN ?_ _ | refine blk_drew ?_ | refine blk_alloc ?_ _)); refine blk_put (cs := #[.string (⟨#[]⟩ : ByteArray), .string (⟨#[]⟩ : ByteArray)]) ?_ 0 _ rfl; exact lb BK424.out) hb); have n1_ := Aside0.mk (below_step (lB HB.out) hb); clear BK424 HB; have BK424 := n0_; have HB := n1_; clear n0_ n1_; (try clear hb); (try clear hb2); (try clear hk); (try clear hi)) | ((with_reducible refine gate_dst (N := 54) rfl ?_); refine box_event ?hg (N := 54) ?hd (cs := #[.string (⟨#[]⟩ : ByteArray), .string (⟨#[]⟩ : ByteArray)]) (t := 25) ?hr ?_; (case hd => rfl); (case hg => rfl); (case hr => exact lr); intro gb428 hg w206 hbox hb; have n0_ := Aside0.mk (blk_below (lb BK424.out) hb); have n1_ := Aside0.mk (below_step (lB HB.out) hb); have n2_ := Aside0.mk (hbox); have n3_ := gw hg (lB HB.out); have n4_ := gw hg (lB HB.out); have n5_ := na hg (lb BK424.out); have n6_ := nz hg (lb BK424.out); clear BK424 HB; have BK424 := n0_; have HB := n1_; have BK428 := n2_; have GW428 := n3_; have GE428 := n4_; have NB424_428 := n5_; have NB428_424 := n6_; clear n0_ n1_ n2_ n3_ n4_ n5_ n6_; clear hb hbox hg; have hnb207 := NB428_424.out; have hnc207 := NB424_428.out; have hcz208_0 : w206.cell? ⟨gb428, 0, none⟩ = some (.string (⟨#[]⟩ : ByteArray)) := (blk_cell BK428.out 0).trans rfl; have hcz208_1 : w206.cell? ⟨gb428, 1, none⟩ = some (.string (⟨#[]⟩ : ByteArray)) := (blk_cell BK428.out 1).trans rfl; have hfz208_0 := blk_frozen BK428.out 0; have hfz208_1 := blk_frozen BK428.out 1; have hcz209_0 : w206.cell? ⟨gb424, 0, none⟩ = some (.string t421) := (blk_cell BK424.out 0).trans rfl; have hcz209_1 : w206.cell? ⟨gb424, 1, none⟩ = some (.string t422) := (blk_cell BK424.out 1).trans rfl; have hfz209_0 := blk_frozen BK424.out 0; have hfz209_1 := blk_frozen BK424.out 1) | ((with_reducible refine gate_callee (f := 23) rfl ?_); refine goesL_ (some 336) rfl rfl Tryz.func23 (by kernel_rfl) rfl #[.agg #[.string t421, .string t422], .int .i64 t423] rfl lm ?_; (with_reducible refine (spec_LeastConjugate.calls t421 t422 t423 t429 t430 t431 _ A200.out).mono ?_); rintro e w210 ⟨rfl, hb⟩; refine ⟨_, rfl, ?_⟩; have n0_ := Aside0.mk (blk_below (g := gb424) (o := .cells #[.string t421, .string t422] 25 (0, 0)) (by (with_reducible repeat (first | refine blk_drewN ?_ _ | refine blk_drew ?_ | refine blk_alloc ?_ _)); refine blk_far ?_ NB424_428.out _; (with_reducible repeat (first | refine blk_drewN ?_ _ | refine blk_drew ?_ | refine blk_alloc ?_ _)); refine blk_far ?_ NB424_428.out _; exact lb BK424.out) hb); have n1_ := Aside0.mk (blk_below (g := gb428) (o := .cells #[.string t425, .string t426] 25 (0, 0)) (by (with_reducible repeat (first | refine blk_drewN ?_ _ | refine blk_drew ?_ | refine blk_alloc ?_ _)); refine blk_put (cs := #[.string t425, .string (⟨#[]⟩ : ByteArray)]) ?_ 1 _ rfl; (with_reducible repeat (first | refine blk_drewN ?_ _ | refine blk_drew ?_ | refine blk_alloc ?_ _)); refine blk_put (cs := #[.string (⟨#[]⟩ : ByteArray), .string (⟨#[]⟩ : ByteArray)]) ?_ 0 _ rfl; exact lb BK428.out) hb); have n2_ := Aside0.mk (below_step (lB HB.out) hb); clear BK424 BK428 HB; have BK424 := n0_; have BK428 := n1_; have HB := n2_; clear n0_ n1_ n2_; (try clear hb); (try clear hb2); (try clear hk); (try clear hi)) | ((with_reducible refine gate_dst (N := 56) rfl ?_); refine box_event ?hg (N := 56) ?hd (cs := #[.string (⟨#[]⟩ : ByteArray), .string (⟨#[]⟩ : ByteArray)]) (t := 25) ?hr ?_; (case hd => rfl); (case hg => rfl); (case hr => exact lr); intro gb432 hg w211 hbox hb; have n0_ := Aside0.mk (blk_below (lb BK424.out) hb); have n1_ := Aside0.mk (blk_below (lb BK428.out) hb); have n2_ := Aside0.mk (below_step (lB HB.out) hb); have n3_ := Aside0.mk (hbox); have n4_ := gw hg (lB HB.out); have n5_ := gw hg (lB HB.out); have n6_ := na hg (lb BK424.out); have n7_ := nz hg (lb BK424.out); have n8_ := na hg (lb BK428.out); have n9_ := nz hg (lb BK428.out); clear BK424 BK428 HB; have BK424 := n0_; have BK428 := n1_; have HB := n2_; have BK432 := n3_; have GW432 := n4_; have GE432 := n5_; have NB424_432 := n6_; have NB432_424 := n7_; have NB428_432 := n8_; have NB432_428 := n9_; clear n0_ n1_ n2_ n3_ n4_ n5_ n6_ n7_ n8_ n9_; clear hb hbox hg; have hnb212 := NB432_424.out; have hnc212 := NB424_432.out; have hnb213 := NB432_428.out; have hnc213 := NB428_432.out; have hcz214_0 : w211.cell? ⟨gb432, 0, none⟩ = some (.string (⟨#[]⟩ : ByteArray)) := (blk_cell BK432.out 0).trans rfl; have hcz214_1 : w211.cell? ⟨gb432, 1, none⟩ = some (.string (⟨#[]⟩ : ByteArray)) := (blk_cell BK432.out 1).trans rfl; have hfz214_0 := blk_frozen BK432.out 0; have hfz214_1 := blk_frozen BK432.out 1))
        (try simp only [Act.put, List.setIfInBounds_toArray, List.set_cons_zero, List.set_cons_succ])
        go_cut [346] (fun v346 wc => ∃ (kq : Nat) (x346_200 : Bool), v346 = .bool x346_200 ∧ Aside0 (laws_FnConjugatesFound.j6 kq t423 t427 x346_200 t421 t422 t425 t426 = some r) ∧ Aside0 (kq ≤ kj176) ∧ Aside0 (wc.heap[gb424]? = some (.cells #[.string t421, .string t422] 25 (0, 0))) ∧ Aside0 (wc.heap[gb428]? = some (.cells #[.string t425, .string t426] 25 (0, 0))) ∧ Aside0 (Below w.heap.size w wc))
        case first =>
         as_aux_lemma =>
         have H := HC201.out
         clear HC201
         by_cases c215 : (t427 != t431) = true
         · rw [if_pos c215] at H
           have c215b0 : (t427 != t431) = true := c215
           (try (have c215b1 : decide (t427 = t431) = false := by simpa using c215))
           (try (have c215b2 : (t427 == t431) = false := by simpa using c215))
           (try (have c215b3 : ¬ (t427 = t431) := by simpa using c215))
           clear c215
           (first | rw [c215b0] | (simp only [i64_w, i32_w]; rw [c215b0]) | skip)
           have H' := Aside0.mk H
           clear H
           go_wp2
           go_meet
           case rel => exact ⟨_, (true), (by first | rfl | (simp; done) | (simp [*]; done)), H', ⟨by have := HJ9.out; have := HJ46.out; have := HJ84.out; have := HJ113.out; have := HJ154.out; have := HJ176.out; first | omega | exact Nat.le_refl _⟩, ⟨by (with_reducible repeat (first | refine blk_drewN ?_ _ | refine blk_drew ?_ | refine blk_alloc ?_ _)); refine blk_far ?_ NB424_432.out _; (with_reducible repeat (first | refine blk_drewN ?_ _ | refine blk_drew ?_ | refine blk_alloc ?_ _)); refine blk_far ?_ NB424_432.out _; exact lb BK424.out⟩, ⟨by (with_reducible repeat (first | refine blk_drewN ?_ _ | refine blk_drew ?_ | refine blk_alloc ?_ _)); refine blk_far ?_ NB428_432.out _; (with_reducible repeat (first | refine blk_drewN ?_ _ | refine blk_drew ?_ | refine blk_alloc ?_ _)); refine blk_far ?_ NB428_432.out _; exact lb BK428.out⟩, ⟨by exact lB HB.out⟩⟩
         rw [if_neg c215] at H
         have c215b0 : (t427 != t431) = false := by simpa using c215
         (try (have c215b1 : decide (t427 = t431) = true := by simpa using c215))
         (try (have c215b2 : (t427 == t431) = true := by simpa using c215))
         clear c215
         (first | rw [c215b0] | (simp only [i64_w, i32_w]; rw [c215b0]) | skip)
         have H' := Aside0.mk H
         clear H
         have hnb216 := NB428_424.out
         have hnc216 := NB424_428.out
         have hnb217 := NB428_432.out
         have hnc217 := NB432_428.out
         have hcz218_0 : w211.cell? ⟨gb428, 0, none⟩ = some (.string t425) := (blk_cell BK428.out 0).trans rfl
         have hcz218_1 : w211.cell? ⟨gb428, 1, none⟩ = some (.string t426) := (blk_cell BK428.out 1).trans rfl
         have hfz218_0 := blk_frozen BK428.out 0
         have hfz218_1 := blk_frozen BK428.out 1
         have hnb219 := NB432_424.out
         have hnc219 := NB424_432.out
         have hcz220_0 : w211.cell? ⟨gb432, 0, none⟩ = some (.string (⟨#[]⟩ : ByteArray)) := (blk_cell BK432.out 0).trans rfl
         have hcz220_1 : w211.cell? ⟨gb432, 1, none⟩ = some (.string (⟨#[]⟩ : ByteArray)) := (blk_cell BK432.out 1).trans rfl
         have hfz220_0 := blk_frozen BK432.out 0
         have hfz220_1 := blk_frozen BK432.out 1
         go_wp2
         go_meet
         case rel => exact ⟨_, ((!(t425.toList == t429.toList) || (!(t426.toList == t430.toList)))), (by first | rfl | (simp; done) | (simp [*]; done)), H', ⟨by have := HJ9.out; have := HJ46.out; have := HJ84.out; have := HJ113.out; have := HJ154.out; have := HJ176.out; first | omega | exact Nat.le_refl _⟩, ⟨by (with_reducible repeat (first | refine blk_drewN ?_ _ | refine blk_drew ?_ | refine blk_alloc ?_ _)); refine blk_far ?_ NB424_432.out _; (with_reducible repeat (first | refine blk_drewN ?_ _ | refine blk_drew ?_ | refine blk_alloc ?_ _)); refine blk_far ?_ NB424_432.out _; exact lb BK424.out⟩, ⟨by (with_reducible repeat (first | refine blk_drewN ?_ _ | refine blk_drew ?_ | refine blk_alloc ?_ _)); refine blk_far ?_ NB428_432.out _; (with_reducible repeat (first | refine blk_drewN ?_ _ | refine blk_drew ?_ | refine blk_alloc ?_ _)); refine blk_far ?_ NB428_432.out _; exact lb BK428.out⟩, ⟨by exact lB HB.out⟩⟩
        case rest =>
        as_aux_lemma =>
        clear HC201
        (try clear c1)
        (try clear hcz204_0); (try clear hcz204_1); (try clear hcz208_0); (try clear hcz208_1); (try clear hcz209_0); (try clear hcz209_1); (try clear hcz214_0); (try clear hcz214_1)
        (try clear hfz204_0); (try clear hfz204_1); (try clear hfz208_0); (try clear hfz208_1); (try clear hfz209_0); (try clear hfz209_1); (try clear hfz214_0); (try clear hfz214_1)
        obtain ⟨kq, x346_200, rfl, HA, HJ200, BK424, BK428, HB⟩ := hcut
        cases kq with
        | zero => exact absurd HA.out (by simp [laws_FnConjugatesFound.j6])
        | succ kj200 =>
         have H := HA.out
         clear HA
         simp only [laws_FnConjugatesFound.j6] at H
         by_cases c221 : x346_200 = true
         · subst c221
           rw [if_pos rfl] at H
           exact absurd ((Option.some.inj H).trans HRT.out) (by decide)
         replace c221 := Bool.eq_false_iff.mpr c221
         subst c221
         rw [if_neg (show ¬ (false = true) by decide)] at H
         by_cases c222 : t427 = true
         rotate_left
         · replace c222 := Bool.eq_false_iff.mpr c222
           subst c222
           rw [if_neg (show ¬ (false = true) by decide)] at H
           obtain rfl := Option.some.inj H
           go_wp2
           go_ret
           exact ⟨by first | rfl | (simp [errW_none, errW_some] <;> rfl) | (simp [*, errW_none, errW_some] <;> rfl), by exact lB HB.out⟩

         subst c222
         rw [if_pos rfl] at H
         replace H := Option.bind_eq_some_iff.mp H
         obtain ⟨⟨t433, t434⟩, A2230, H⟩ := H
         (try dsimp only at H)
         have A223 := Aside0.mk A2230
         clear A2230
         replace H := Option.bind_eq_some_iff.mp H
         obtain ⟨⟨t435, t436⟩, A2240, H⟩ := H
         (try dsimp only at H)
         have A224 := Aside0.mk A2240
         clear A2240
         replace H := Option.bind_eq_some_iff.mp H
         obtain ⟨⟨t437, t438⟩, A2250, H⟩ := H
         (try dsimp only at H)
         have A225 := Aside0.mk A2250
         clear A2250
         replace H := Option.bind_eq_some_iff.mp H
         obtain ⟨⟨t439, t440⟩, A2260, H⟩ := H
         (try dsimp only at H)
         have A226 := Aside0.mk A2260
         clear A2260
         by_cases c227 : t434 = true
         rotate_left
         · replace c227 := Bool.eq_false_iff.mpr c227
           subst c227
           rw [if_neg (show ¬ (false = true) by decide)] at H
           exact absurd ((Option.some.inj H).trans HRT.out) (by decide)
         subst c227
         rw [if_pos rfl] at H
         by_cases c228 : t433 = true
         rotate_left
         · replace c228 := Bool.eq_false_iff.mpr c228
           subst c228
           rw [if_neg (show ¬ (false = true) by decide)] at H
           exact absurd ((Option.some.inj H).trans HRT.out) (by decide)
         subst c228
         rw [if_pos rfl] at H
         by_cases c229 : t436 = true
         rotate_left
         · replace c229 := Bool.eq_false_iff.mpr c229
           subst c229
           rw [if_neg (show ¬ (false = true) by decide)] at H
           exact absurd ((Option.some.inj H).trans HRT.out) (by decide)
         subst c229
         rw [if_pos rfl] at H
         by_cases c230 : t440 = true
         rotate_left
         · replace c230 := Bool.eq_false_iff.mpr c230
           subst c230
           rw [if_neg (show ¬ (false = true) by decide)] at H
           exact absurd ((Option.some.inj H).trans HRT.out) (by decide)
         subst c230
         rw [if_pos rfl] at H
         obtain rfl := Option.some.inj H
         have hnb231 := NB424_428.out
         have hnc231 := NB428_424.out
         have hcz232_0 : wc.cell? ⟨gb424, 0, none⟩ = some (.string t421) := (blk_cell BK424.out 0).trans rfl
         have hcz232_1 : wc.cell? ⟨gb424, 1, none⟩ = some (.string t422) := (blk_cell BK424.out 1).trans rfl
         have hfz232_0 := blk_frozen BK424.out 0
         have hfz232_1 := blk_frozen BK424.out 1
         have hcz233_0 : wc.cell? ⟨gb428, 0, none⟩ = some (.string t425) := (blk_cell BK428.out 0).trans rfl
         have hcz233_1 : wc.cell? ⟨gb428, 1, none⟩ = some (.string t426) := (blk_cell BK428.out 1).trans rfl
         have hfz233_0 := blk_frozen BK428.out 0
         have hfz233_1 := blk_frozen BK428.out 1
         go_wp2_with (first | ((with_reducible refine gate_callee (f := 8) rfl ?_); refine goesL_ (some 352) rfl rfl Tryz.func8 (by kernel_rfl) rfl #[.agg #[.string t421, .string t422], .agg #[.string t425, .string t426], .int .i64 t423] rfl lm ?_; (with_reducible refine (impl_AreConjugateWithin.calls t421 t422 t425 t426 t423 true true _ A223.out).mono ?_); rintro e w234 ⟨rfl, hb⟩; refine ⟨_, rfl, ?_⟩; have n0_ := Aside0.mk (blk_below (lb BK424.out) hb); have n1_ := Aside0.mk (blk_below (lb BK428.out) hb); have n2_ := Aside0.mk (below_step (lB HB.out) hb); clear BK424 BK428 HB; have BK424 := n0_; have BK428 := n1_; have HB := n2_; clear n0_ n1_ n2_; (try clear hb); (try clear hb2); (try clear hk); (try clear hi); have hcz235_0 : w234.cell? ⟨gb428, 0, none⟩ = some (.string t425) := (blk_cell BK428.out 0).trans rfl; have hcz235_1 : w234.cell? ⟨gb428, 1, none⟩ = some (.string t426) := (blk_cell BK428.out 1).trans rfl; have hfz235_0 := blk_frozen BK428.out 0; have hfz235_1 := blk_frozen BK428.out 1) | ((with_reducible refine gate_callee (f := 24) rfl ?_); refine goesL_ (some 358) rfl rfl Tryz.func24 (by kernel_rfl) rfl #[.string t425] rfl lm ?_; (with_reducible refine (impl_CaretsOf.calls t425 t435 true _ A224.out).mono ?_); rintro e w236 ⟨rfl, hb⟩; refine ⟨_, rfl, ?_⟩; have n0_ := Aside0.mk (blk_below (lb BK424.out) hb); have n1_ := Aside0.mk (blk_below (lb BK428.out) hb); have n2_ := Aside0.mk (below_step (lB HB.out) hb); clear BK424 BK428 HB; have BK424 := n0_; have BK428 := n1_; have HB := n2_; clear n0_ n1_ n2_; (try clear hb); (try clear hb2); (try clear hk); (try clear hi); have hcz237_0 : w236.cell? ⟨gb424, 0, none⟩ = some (.string t421) := (blk_cell BK424.out 0).trans rfl; have hcz237_1 : w236.cell? ⟨gb424, 1, none⟩ = some (.string t422) := (blk_cell BK424.out 1).trans rfl; have hfz237_0 := blk_frozen BK424.out 0; have hfz237_1 := blk_frozen BK424.out 1) | ((with_reducible refine gate_callee (f := 14) rfl ?_); refine goesL_ (some 363) rfl rfl Tryz.func14 (by kernel_rfl) rfl #[.agg #[.string t421, .string t422]] rfl lm ?_; (with_reducible refine (laws_nReduced.calls t421 t422 t437 t438 _ A225.out).mono ?_); rintro e w238 ⟨rfl, hb⟩; refine ⟨_, rfl, ?_⟩; have n0_ := Aside0.mk (blk_below (lb BK424.out) hb); have n1_ := Aside0.mk (blk_below (lb BK428.out) hb); have n2_ := Aside0.mk (below_step (lB HB.out) hb); clear BK424 BK428 HB; have BK424 := n0_; have BK428 := n1_; have HB := n2_; clear n0_ n1_ n2_; (try clear hb); (try clear hb2); (try clear hk); (try clear hi)) | ((with_reducible refine gate_callee (f := 24) rfl ?_); refine goesL_ (some 365) rfl rfl Tryz.func24 (by kernel_rfl) rfl #[.string t437] rfl lm ?_; (with_reducible refine (impl_CaretsOf.calls t437 t439 true _ A226.out).mono ?_); rintro e w239 ⟨rfl, hb⟩; refine ⟨_, rfl, ?_⟩; have n0_ := Aside0.mk (blk_below (lb BK424.out) hb); have n1_ := Aside0.mk (blk_below (lb BK428.out) hb); have n2_ := Aside0.mk (below_step (lB HB.out) hb); clear BK424 BK428 HB; have BK424 := n0_; have BK428 := n1_; have HB := n2_; clear n0_ n1_ n2_; (try clear hb); (try clear hb2); (try clear hk); (try clear hi)))
         go_ret
         exact ⟨by first | rfl | (simp [errW_none, errW_some] <;> rfl) | (simp [*, errW_none, errW_some] <;> rfl), by exact lB HB.out⟩
def laws_FnConjugatesFound.Pure : Prop := ∀ (l0 : List Int) (l1 : List Int), l0.length ≤ maxLen → l0.length * 1 ≤ 140737488351232 → (∀ x ∈ l0, (Lit.int .u8 x).wf = true) → l1.length ≤ maxLen → l1.length * 1 ≤ 140737488351232 → (∀ x ∈ l1, (Lit.int .u8 x).wf = true) → ∃ k, laws_FnConjugatesFound.f k l0 l1 = some true
theorem laws_FnConjugatesFound.walk (P : laws_FnConjugatesFound.Pure) (a0 : Option Addr) (len0 cap0 : Nat) (z0 : List Int) (a1 : Option Addr) (len1 cap1 : Nat) (z1 : List Int) (w : World) (w0 : (a0 = none ∧ len0 = 0 ∧ cap0 = 0 ∧ z0 = []) ∨ ∃ x, a0 = some x ∧ len0 ≤ cap0 ∧ cap0 ≤ maxLen ∧ z0.length = cap0 ∧ (∀ i, i < z0.length → w.cell? (x.add i) = some (.int .u8 (z0.getD i 0))) ∧ ∀ n ∈ z0, (Lit.int .u8 n).wf = true) (y0 : len0 * 1 ≤ 140737488351232) (w1 : (a1 = none ∧ len1 = 0 ∧ cap1 = 0 ∧ z1 = []) ∨ ∃ x, a1 = some x ∧ len1 ≤ cap1 ∧ cap1 ≤ maxLen ∧ z1.length = cap1 ∧ (∀ i, i < z1.length → w.cell? (x.add i) = some (.int .u8 (z1.getD i 0))) ∧ ∀ n ∈ z1, (Lit.int .u8 n).wf = true) (y1 : len1 * 1 ≤ 140737488351232) :
    Calls Tryz.prog 3 #[.slice a0 len0 cap0, .slice a1 len1 cap1] w fun e w' => e = .returned (.bool true) ∧ Below w.heap.size w w' := by
  obtain ⟨l0, rfl, hr0, hm0, hw0, hc0⟩ := ReadsInt.ofRowC w0
  obtain ⟨l1, rfl, hr1, hm1, hw1, hc1⟩ := ReadsInt.ofRowC w1
  obtain ⟨k, h⟩ := P l0 l1 hm0 y0 hw0 hm1 y1 hw1
  refine (laws_FnConjugatesFound.calls k _ _ l0 _ _ l1 true w (Kd.C_of_reads (d := (0 : Int)) (h1 := fun _ => rfl) hr0) hc0 (Kd.C_of_reads (d := (0 : Int)) (h1 := fun _ => rfl) hr1) hc1 h (Aside0.mk rfl)).mono ?_
  rintro e w' ⟨rfl, hd⟩
  exact ⟨rfl, hd⟩
end Go.Proofs.YtijnadjgmmednaaGreat.PA
namespace Go.Proofs.YtijnadjgmmednaaGreat.PA
open Go.RowKit Go.Proofs.YtijnadjgmmednaaGreatW.PrintWords
def Oct (l : List Int) : Prop := ∀ x ∈ l, 0 ≤ x ∧ x ≤ 255
def Lf (m : Nat) (a : Int) : Prop := 0 ≤ a ∧ a + m ≤ 4611686018427387904
theorem Lf.less {m n : Nat} {a : Int} (h : Lf m a) (hn : n ≤ m) : Lf n a := by unfold Lf at *; omega
theorem w64 {x : Int} (h : -9223372036854775808 ≤ x ∧ x ≤ 9223372036854775807) : wrap64 x = x := by unfold wrap64; omega
theorem rd_oct {l : List Int} (hl : Oct l) (i : Int) (h0 : 0 ≤ i) (h1 : i < l.length) : 0 ≤ rd l i ∧ rd l i ≤ 255 := by
  unfold rd
  rw [List.getD_eq_getElem?_getD, List.getElem?_eq_getElem (by omega)]
  exact hl _ (List.getElem_mem _)
theorem u64_range (n : Int) : 0 ≤ IntKind.u64.wrap n ∧ IntKind.u64.wrap n < 18446744073709551616 := by
  simp [IntKind.wrap, IntKind.bits, IntKind.signed]; omega
theorem u64_in (n : Int) (h0 : 0 ≤ n) (h1 : n < 2 ^ 64) : IntKind.u64.wrap n = n := by
  simp [IntKind.wrap, IntKind.bits, IntKind.signed]; omega
theorem byte_of (n : Int) : 0 ≤ wrap64 (Go.bits .and .u64 (IntKind.u64.wrap n / 1099511627776) 255) ∧ wrap64 (Go.bits .and .u64 (IntKind.u64.wrap n / 1099511627776) 255) ≤ 255 := by
  obtain ⟨h0, h1⟩ := u64_range n
  generalize IntKind.u64.wrap n = x at *
  have h2 : 0 ≤ x / 1099511627776 := by omega
  have h3 : x / 1099511627776 < 2 ^ 64 := by omega
  have := bits_mask .u64 64 (by decide) u64_in 8 (by decide) (x / 1099511627776) h2 h3
  rw [show ((2 : Int) ^ 8 - 1) = 255 from rfl] at this
  rw [this, w64 (by omega)]
  omega
theorem next_tot {l : List Int} (hl : Oct l) {m : Nat} {a s : Int} (h : Lf (m + 1) a) : ∃ r s', spec_l1Cur_next.f l a s = some (r, a + 1, s') ∧ 0 ≤ r ∧ r ≤ 255 := by
  unfold Lf at h
  have hw : wrap64 (a + 1) = a + 1 := w64 (by omega)
  unfold spec_l1Cur_next.f
  by_cases h1 : a < (l.length : Int)
  · obtain ⟨b0, b1⟩ := rd_oct hl a h.1 h1
    rw [if_pos h1, if_pos h.1, hw]
    by_cases h2 : a + 1 ≤ (l.length : Int)
    · rw [if_pos h2, w64 (x := rd l a) (by omega)]
      exact ⟨_, _, rfl, b0, b1⟩
    · rw [if_neg h2]
      exact ⟨_, _, rfl, (byte_of _).1, (byte_of _).2⟩
  · rw [if_neg h1, hw]
    by_cases h2 : a + 1 ≤ (l.length : Int)
    · rw [if_pos h2]
      try simp only [Option.bind_some]
      exact ⟨_, _, rfl, by omega, by omega⟩
    · rw [if_neg h2]
      exact ⟨_, _, rfl, (byte_of _).1, (byte_of _).2⟩
theorem pick_tot {l : List Int} (hl : Oct l) {m : Nat} {a s : Int} (n : Int) (hn : n ≤ 1000000000) (h : Lf (m + 2) a) : ∃ r a' s', spec_l1Cur_pick.f l a s n = some (r, a', s') ∧ 0 ≤ r ∧ (1 ≤ n → r < n) ∧ Lf m a' := by
  unfold spec_l1Cur_pick.f
  by_cases h1 : n ≤ 1
  · rw [if_pos h1]
    exact ⟨0, a, s, rfl, by omega, fun _ => by omega, h.less (by omega)⟩
  · obtain ⟨r, s', e, r0, r1⟩ := next_tot hl (m := m + 1) (a := a) (s := s) h
    rw [if_neg h1, e]
    simp only [Option.bind_some]
    have h' : Lf (m + 1) (a + 1) := by unfold Lf at *; omega
    by_cases h2 : n > 200
    · obtain ⟨r2, s2, e2, r20, r21⟩ := next_tot hl (m := m) (s := s') h'
      rw [if_pos h2, e2]
      simp only [Option.bind_some]
      rw [if_neg (by omega), w64 (x := r * 256) (by omega), w64 (by omega)]
      have hm : Int.tmod (r * 256 + r2) n = (r * 256 + r2) % n := Int.tmod_eq_emod_of_nonneg (by omega)
      rw [hm]
      exact ⟨_, _, _, rfl, Int.emod_nonneg _ (by omega), fun _ => Int.emod_lt_of_pos _ (by omega), by unfold Lf at *; omega⟩
    · rw [if_neg h2, if_neg (by omega)]
      have hm : Int.tmod r n = r % n := Int.tmod_eq_emod_of_nonneg (by omega)
      rw [hm]
      exact ⟨_, _, _, rfl, Int.emod_nonneg _ (by omega), fun _ => Int.emod_lt_of_pos _ (by omega), by unfold Lf at *; omega⟩
theorem one_tot {l : List Int} (hl : Oct l) {m : Nat} {a s : Int} (n : Int) (hn : n ≤ 1000000000) (h : Lf (m + 2) a) : ∃ b a' s', spec_l1Cur_one.f l a s n = some (b, a', s') ∧ Lf m a' := by
  obtain ⟨r, a', s', e, _, _, h'⟩ := pick_tot hl n hn (a := a) (s := s) h
  unfold spec_l1Cur_one.f
  rw [e]
  exact ⟨_, _, _, rfl, h'⟩
theorem among_tot {l : List Int} (hl : Oct l) {m : Nat} {a s : Int} (xs : List Int) (h0 : 0 < xs.length) (hn : xs.length ≤ 1000) (h : Lf (m + 2) a) : ∃ x a' s', spec_l1Cur_among.f l a s xs = some (x, a', s') ∧ x ∈ xs ∧ Lf m a' := by
  obtain ⟨r, a', s', e, r0, r1, h'⟩ := pick_tot hl (xs.length : Int) (by omega) (a := a) (s := s) h
  have r2 := r1 (by omega)
  unfold spec_l1Cur_among.f
  rw [e]
  simp only [Option.bind_some]
  rw [if_pos r0, if_pos r2]
  refine ⟨_, _, _, rfl, ?_, h'⟩
  unfold rd
  rw [List.getD_eq_getElem?_getD, List.getElem?_eq_getElem (by omega)]
  exact List.getElem_mem _
theorem lit4 : (⟨#[40, 46, 46, 41]⟩ : ByteArray) = N.tx (.node .leaf .leaf) := rfl
theorem graft_tot (T : N.Tr) (i : Int) (h0 : 0 ≤ i) (h1 : i < T.carets + 1) (h2 : T.carets < 900) : ∃ T' : N.Tr, spec_trGraft.f (N.tx T) i (⟨#[40, 46, 46, 41]⟩ : ByteArray) = some (N.tx T') ∧ T'.carets = T.carets + 1 := by
  refine ⟨N.graft T i.toNat (.node .leaf .leaf), ?_, ?_⟩
  · rw [lit4]
    unfold spec_trGraft.f
    rw [N.parseT_tx, N.parseT_tx]
    exact if_pos ⟨h0, by omega, by omega, by decide⟩
  · exact N.grown_one _ _ T 0 (Nat.zero_le _) (by omega)
theorem sureTree_loop {l : List Int} (hl : Oct l) (n : Nat) (hn : n ≤ 800) : ∀ (d k : Nat) (m : Nat) (a s : Int) (T : N.Tr) (i : Nat), i + d = n → d < k → T.carets = i → Lf (m + 2 * d) a →
    ∃ (T' : N.Tr) (a' s' : Int), spec_l1Cur_sureTree.l0 k n (N.tx T) i l a s = some (N.tx T', a', s') ∧ T'.carets = n ∧ Lf m a' := by
  intro d
  induction d with
  | zero =>
    intro k m a s T i hi hk hT h
    obtain ⟨k, rfl⟩ : ∃ q, k = q + 1 := ⟨k - 1, by omega⟩
    exact ⟨T, a, s, by simp only [spec_l1Cur_sureTree.l0]; rw [if_neg (by omega)], by omega, h⟩
  | succ d ih =>
    intro k m a s T i hi hk hT h
    obtain ⟨k, rfl⟩ : ∃ q, k = q + 1 := ⟨k - 1, by omega⟩
    obtain ⟨r, a1, s1, e, r0, r1, h1⟩ := pick_tot hl (m := m + 2 * d) (a := a) (s := s) ((i : Int) + 1) (by omega) (by unfold Lf at *; omega)
    have r2 := r1 (by omega)
    obtain ⟨T1, e1, hT1⟩ := graft_tot T r r0 (by omega) (by omega)
    obtain ⟨T', a', s', e2, hT', h2⟩ := ih k m a1 s1 T1 (i + 1) (by omega) (by omega) (by omega) h1
    refine ⟨T', a', s', ?_, hT', h2⟩
    simp only [spec_l1Cur_sureTree.l0]
    rw [if_pos (by omega), w64 (by omega), e]
    simp only [Option.bind_some]
    rw [e1]
    simp only [Option.bind_some]
    rw [show ((i : Int) + 1) = ((i + 1 : Nat) : Int) by omega]
    exact e2
theorem sureTree_tot {l : List Int} (hl : Oct l) {m : Nat} {a s : Int} (n : Nat) (hn : n ≤ 800) (k : Nat) (hk : n < k) (h : Lf (m + 2 * n) a) : ∃ (T : N.Tr) (a' s' : Int), spec_l1Cur_sureTree.f k l a s n = some (N.tx T, a', s') ∧ T.carets = n ∧ Lf m a' :=
  sureTree_loop hl n hn n k m a s .leaf 0 (by omega) hk rfl h
theorem surePair_tot {l : List Int} (hl : Oct l) {m : Nat} {a s : Int} (n : Nat) (hn : n ≤ 800) (k : Nat) (hk : n < k) (h : Lf (m + 4 * n) a) : ∃ (T U : N.Tr) (a' s' : Int), spec_l1Cur_surePair.f k l a s n = some (N.tx T, N.tx U, a', s') ∧ T.carets = n ∧ U.carets = n ∧ Lf m a' := by
  obtain ⟨T, a1, s1, e1, hT, h1⟩ := sureTree_tot hl (m := m + 2 * n) (a := a) (s := s) n hn k hk (by unfold Lf at *; omega)
  obtain ⟨U, a2, s2, e2, hU, h2⟩ := sureTree_tot hl (m := m) (a := a1) (s := s1) n hn k hk h1
  unfold spec_l1Cur_surePair.f
  rw [e1]
  simp only [Option.bind_some]
  rw [e2]
  exact ⟨T, U, a2, s2, rfl, hT, hU, h2⟩
theorem str1 (b : Int) : (strOfNums [b]).size = 1 := by simp [strOfNums]; rfl
theorem ext_size (t : ByteArray) (i j : Nat) : (t.extract i j).size ≤ t.size := by simp [ByteArray.size_extract]; omega
theorem spoilt_loop {l : List Int} (hl : Oct l) (w : ByteArray) (hw : 0 < w.size) (hw2 : w.size ≤ 1000) : ∀ (d k m : Nat) (a s : Int) (t : ByteArray) (n : Int), 0 ≤ n → n.toNat = d → 2 * d + 1 < k → t.size + d ≤ 1000000 → Lf (m + 6 * d) a →
    ∃ (t' : ByteArray) (a' s' : Int), spec_l1Cur_spoilt.l0 k t w n l a s = some (t', a', s') ∧ t'.size ≤ t.size + d ∧ Lf m a' := by
  intro d
  induction d with
  | zero =>
    intro k m a s t n h0 hd hk ht h
    obtain ⟨k, rfl⟩ : ∃ q, k = q + 2 := ⟨k - 2, by omega⟩
    refine ⟨t, a, s, ?_, by omega, h⟩
    simp only [spec_l1Cur_spoilt.l0]
    rw [if_neg (by omega)]
    simp [spec_l1Cur_spoilt.j1]
  | succ d ih =>
    intro k m a s t n h0 hd hk ht h
    obtain ⟨k, rfl⟩ : ∃ q, k = q + 2 := ⟨k - 2, by omega⟩
    have hn : wrap64 (n - 1) = n - 1 := w64 (by omega)
    simp only [spec_l1Cur_spoilt.l0]
    rw [if_pos (by omega)]
    simp only [spec_l1Cur_spoilt.j1]
    by_cases hz : (t.size : Int) > 0
    · rw [decide_eq_true hz, if_pos rfl]
      obtain ⟨i, a1, s1, e1, i0, i1, h1⟩ := pick_tot hl (m := m + 6 * d + 4) (a := a) (s := s) (t.size : Int) (by omega) (by unfold Lf at *; omega)
      have i2 := i1 (by omega)
      obtain ⟨c, a2, s2, e2, c0, c1, h2⟩ := pick_tot hl (m := m + 6 * d + 2) (a := a1) (s := s1) (w.size : Int) (by omega) (by unfold Lf at *; omega)
      have c2 := c1 (by omega)
      obtain ⟨q, a3, s3, e3, q0, q1, h3⟩ := pick_tot hl (m := m + 6 * d) (a := a2) (s := s2) 3 (by omega) (by unfold Lf at *; omega)
      rw [e1]
      simp only [Option.bind_some]
      rw [e2]
      simp only [Option.bind_some]
      rw [if_pos c0, if_pos c2, e3]
      simp only [Option.bind_some]
      have x0 := ext_size t 0 i.toNat
      have xi : (t.extract i.toNat t.size).size + i.toNat ≤ t.size := by simp [ByteArray.size_extract]; omega
      have x00 : (t.extract 0 i.toNat).size ≤ i.toNat := by simp [ByteArray.size_extract]; omega
      have wi : wrap64 (i + 1) = i + 1 := w64 (by omega)
      have xj : (t.extract (i + 1).toNat t.size).size + i.toNat ≤ t.size := by simp [ByteArray.size_extract]; omega
      have s1_ := str1 (bt w c)
      by_cases q2 : q = 0
      · rw [if_pos q2, if_pos i0, if_pos (by omega), if_pos (by rw [s1_]; omega), if_pos (by rw [ByteArray.size_append, s1_]; omega), hn]
        have hs : (((t.extract 0 i.toNat) ++ strOfNums [bt w c]) ++ t.extract i.toNat t.size).size ≤ t.size + 1 := by rw [ByteArray.size_append, ByteArray.size_append, s1_]; omega
        obtain ⟨t', a', s', e4, ht', h4⟩ := ih k m a3 s3 (((t.extract 0 i.toNat) ++ strOfNums [bt w c]) ++ t.extract i.toNat t.size) (n - 1) (by omega) (by omega) (by omega) (by omega) h3
        exact ⟨t', a', s', e4, by omega, h4⟩
      · rw [if_neg q2]
        by_cases q3 : q = 1
        · rw [if_pos q3, if_pos i0, if_pos (by omega), if_pos (by rw [s1_]; omega), wi, if_pos (by omega), if_pos (by omega), if_pos (by rw [ByteArray.size_append, s1_]; omega), hn]
          have hs : (((t.extract 0 i.toNat) ++ strOfNums [bt w c]) ++ t.extract (i + 1).toNat t.size).size ≤ t.size + 1 := by rw [ByteArray.size_append, ByteArray.size_append, s1_]; omega
          obtain ⟨t', a', s', e4, ht', h4⟩ := ih k m a3 s3 (((t.extract 0 i.toNat) ++ strOfNums [bt w c]) ++ t.extract (i + 1).toNat t.size) (n - 1) (by omega) (by omega) (by omega) (by omega) h3
          exact ⟨t', a', s', e4, by omega, h4⟩
        · rw [if_neg q3, if_pos i0, if_pos (by omega), wi, if_pos (by omega), if_pos (by omega), if_pos (by omega), hn]
          have hs : ((t.extract 0 i.toNat) ++ t.extract (i + 1).toNat t.size).size ≤ t.size + 1 := by rw [ByteArray.size_append]; omega
          obtain ⟨t', a', s', e4, ht', h4⟩ := ih k m a3 s3 ((t.extract 0 i.toNat) ++ t.extract (i + 1).toNat t.size) (n - 1) (by omega) (by omega) (by omega) (by omega) h3
          exact ⟨t', a', s', e4, by omega, h4⟩
    · rw [decide_eq_false hz, if_neg (by decide)]
      exact ⟨t, a, s, rfl, by omega, h.less (by omega)⟩
theorem spoilt_tot {l : List Int} (hl : Oct l) {m : Nat} {a s : Int} (t w : ByteArray) (hw : 0 < w.size) (hw2 : w.size ≤ 1000) (ht : t.size ≤ 900000) (k : Nat) (hk : 5 < k) (h : Lf (m + 14) a) : ∃ (t' : ByteArray) (a' s' : Int), spec_l1Cur_spoilt.f k l a s t w = some (t', a', s') ∧ t'.size ≤ t.size + 2 ∧ Lf m a' := by
  obtain ⟨r, a1, s1, e1, r0, r1, h1⟩ := pick_tot hl (m := m + 12) (a := a) (s := s) 2 (by omega) (by unfold Lf at *; omega)
  have r2 := r1 (by omega)
  obtain ⟨t', a', s', e2, ht', h2⟩ := spoilt_loop hl w hw hw2 (1 + r).toNat k m a1 s1 t (1 + r) (by omega) rfl (by omega) (by omega) (by unfold Lf at *; omega)
  unfold spec_l1Cur_spoilt.f
  rw [e1]
  simp only [Option.bind_some]
  rw [w64 (by omega)]
  exact ⟨t', a', s', e2, by omega, h2⟩
theorem tx_size (T : N.Tr) : (N.tx T).size = 3 * T.carets + 1 := T.txt_length
theorem tree_tot {l : List Int} (hl : Oct l) {m : Nat} {a s : Int} (n : Nat) (hn : n ≤ 100) (k : Nat) (hk : 120 < k) (h : Lf (m + 2 * n + 40) a) : ∃ (t : ByteArray) (a' s' : Int), spec_l1Cur_tree.f k l a s n = some (t, a', s') ∧ t.size ≤ 400 ∧ Lf m a' := by
  unfold spec_l1Cur_tree.f
  obtain ⟨r, a1, s1, e1, r0, r1, h1⟩ := pick_tot hl (m := m + 2 * n + 38) (a := a) (s := s) ((n : Int) + 1) (by omega) (by unfold Lf at *; omega)
  have r2 := r1 (by omega)
  obtain ⟨q, rfl⟩ : ∃ q : Nat, r = q := ⟨r.toNat, by omega⟩
  obtain ⟨T, a2, s2, e2, hT, h2⟩ := sureTree_tot hl (m := m + 38) (a := a1) (s := s1) q (by omega) k (by omega) (by unfold Lf at *; omega)
  obtain ⟨u, a3, s3, e3, u0, u1, h3⟩ := pick_tot hl (m := m + 36) (a := a2) (s := s2) 14 (by omega) (by unfold Lf at *; omega)
  have zT := tx_size T
  rw [w64 (by omega), e1]
  simp only [Option.bind_some]
  rw [e2]
  simp only [Option.bind_some]
  rw [e3]
  simp only [Option.bind_some]
  by_cases z0 : u = 0
  · obtain ⟨t', a', s', e4, ht', h4⟩ := spoilt_tot hl (m := m) (a := a3) (s := s3) (N.tx T) (⟨#[40, 46, 41]⟩ : ByteArray) (by decide) (by decide) (by omega) k (by omega) (by unfold Lf at *; omega)
    rw [if_pos z0, e4]
    exact ⟨t', a', s', rfl, by omega, h4⟩
  · rw [if_neg z0]
    by_cases z1 : u = 1
    · obtain ⟨b, a4, s4, e4, b0, b1, h4⟩ := pick_tot hl (m := m + 34) (a := a3) (s := s3) 2 (by omega) (by unfold Lf at *; omega)
      have b2 := b1 (by omega)
      obtain ⟨c, rfl⟩ : ∃ c : Nat, b = c := ⟨b.toNat, by omega⟩
      obtain ⟨T2, a5, s5, e5, hT2, h5⟩ := sureTree_tot hl (m := m) (a := a4) (s := s4) (8 + c) (by omega) k (by omega) (by unfold Lf at *; omega)
      rw [if_pos z1, e4]
      simp only [Option.bind_some]
      rw [w64 (by omega), show (8 : Int) + (c : Int) = ((8 + c : Nat) : Int) by omega, e5]
      have := tx_size T2
      try simp only [Option.bind_some]
      exact ⟨_, a5, s5, rfl, by omega, h5⟩
    · rw [if_neg z1]
      try simp only [Option.bind_some]
      exact ⟨_, a3, s3, rfl, by omega, h3.less (by omega)⟩
theorem gen_some (i : Int) (h0 : 0 ≤ i) (h1 : i < 900) : ∃ T U : N.Tr, spec_prGenerator.f i = some (N.tx T, N.tx U) ∧ T.carets = i.toNat + 2 ∧ U.carets = i.toNat + 2 := by
  unfold spec_prGenerator.f
  rw [if_pos ⟨h0, h1⟩]
  exact ⟨_, _, rfl, (N.gen_carets _).1, (N.gen_carets _).2⟩
theorem pair_tot {l : List Int} (hl : Oct l) {m : Nat} {a s : Int} (n : Nat) (hn : n ≤ 100) (k : Nat) (hk : 120 < k) (h : Lf (m + 8 * n + 100) a) : ∃ (x y : ByteArray) (a' s' : Int), spec_l1Cur_pair.f k l a s n = some (x, y, a', s') ∧ x.size ≤ 400 ∧ y.size ≤ 400 ∧ Lf m a' := by
  unfold spec_l1Cur_pair.f
  obtain ⟨r, a1, s1, e1, r0, r1, h1⟩ := pick_tot hl (m := m + 8 * n + 98) (a := a) (s := s) ((n : Int) + 1) (by omega) (by unfold Lf at *; omega)
  have r2 := r1 (by omega)
  obtain ⟨q, rfl⟩ : ∃ q : Nat, r = q := ⟨r.toNat, by omega⟩
  obtain ⟨T, U, a2, s2, e2, hT, hU, h2⟩ := surePair_tot hl (m := m + 4 * n + 98) (a := a1) (s := s1) q (by omega) k (by omega) (by unfold Lf at *; omega)
  obtain ⟨u, a3, s3, e3, u0, u1, h3⟩ := pick_tot hl (m := m + 4 * n + 96) (a := a2) (s := s2) 14 (by omega) (by unfold Lf at *; omega)
  have zT := tx_size T
  have zU := tx_size U
  rw [w64 (by omega), e1]
  simp only [Option.bind_some]
  rw [e2]
  simp only [Option.bind_some]
  rw [e3]
  simp only [Option.bind_some]
  by_cases z0 : u = 0
  · obtain ⟨t', a', s', e4, ht', h4⟩ := tree_tot hl (m := m) (a := a3) (s := s3) n hn k hk (by unfold Lf at *; omega)
    rw [if_pos z0, e4]
    try simp only [Option.bind_some]
    exact ⟨_, _, a', s', rfl, by omega, ht', h4⟩
  · rw [if_neg z0]
    by_cases z1 : u = 1
    · obtain ⟨t', a', s', e4, ht', h4⟩ := spoilt_tot hl (m := m) (a := a3) (s := s3) (N.tx T) (⟨#[40, 46, 41]⟩ : ByteArray) (by decide) (by decide) (by omega) k (by omega) (by unfold Lf at *; omega)
      rw [if_pos z1, e4]
      try simp only [Option.bind_some]
      exact ⟨_, _, a', s', rfl, by omega, by omega, h4⟩
    · rw [if_neg z1]
      by_cases z2 : u = 2
      · obtain ⟨b, a4, s4, e4, b0, b1, h4⟩ := pick_tot hl (m := m + 94) (a := a3) (s := s3) 2 (by omega) (by unfold Lf at *; omega)
        have b2 := b1 (by omega)
        obtain ⟨c, rfl⟩ : ∃ c : Nat, b = c := ⟨b.toNat, by omega⟩
        obtain ⟨T2, U2, a5, s5, e5, hT2, hU2, h5⟩ := surePair_tot hl (m := m) (a := a4) (s := s4) (8 + c) (by omega) k (by omega) (by unfold Lf at *; omega)
        rw [if_pos z2, e4]
        simp only [Option.bind_some]
        rw [w64 (by omega), show (8 : Int) + (c : Int) = ((8 + c : Nat) : Int) by omega, e5]
        have := tx_size T2
        have := tx_size U2
        try simp only [Option.bind_some]
        exact ⟨_, _, a5, s5, rfl, by omega, by omega, h5⟩
      · rw [if_neg z2]
        by_cases z3 : u = 3
        · obtain ⟨b, a4, s4, e4, b0, b1, h4⟩ := pick_tot hl (m := m) (a := a3) (s := s3) 4 (by omega) (by unfold Lf at *; omega)
          have b2 := b1 (by omega)
          obtain ⟨T2, U2, e5, hT2, hU2⟩ := gen_some b b0 (by omega)
          rw [if_pos z3, e4]
          simp only [Option.bind_some]
          rw [e5]
          have := tx_size T2
          have := tx_size U2
          try simp only [Option.bind_some]
          exact ⟨_, _, a4, s4, rfl, by omega, by omega, h4⟩
        · rw [if_neg z3]
          try simp only [Option.bind_some]
          exact ⟨_, _, a3, s3, rfl, by omega, by omega, h3.less (by omega)⟩
theorem sureWord_loop {l : List Int} (hl : Oct l) (g : Int) (hg : 1 ≤ g) (hg2 : g ≤ 1000) : ∀ (d k m : Nat) (a s : Int) (xs : List Int) (n : Int), 0 ≤ n → n.toNat = d → d < k → xs.length + d ≤ 1000 → (∀ x ∈ xs, x ≠ 0 ∧ -g ≤ x ∧ x ≤ g) → Lf (m + 4 * d) a →
    ∃ (ys : List Int) (a' s' : Int), spec_l1Cur_sureWord.l0 k g xs n l a s = some (ys, a', s') ∧ ys.length = xs.length + d ∧ (∀ x ∈ ys, x ≠ 0 ∧ -g ≤ x ∧ x ≤ g) ∧ Lf m a' := by
  intro d
  induction d with
  | zero =>
    intro k m a s xs n h0 hd hk hx hxs h
    obtain ⟨k, rfl⟩ : ∃ q, k = q + 1 := ⟨k - 1, by omega⟩
    exact ⟨xs, a, s, by simp only [spec_l1Cur_sureWord.l0]; rw [if_neg (by omega)], by omega, hxs, h⟩
  | succ d ih =>
    intro k m a s xs n h0 hd hk hx hxs h
    obtain ⟨k, rfl⟩ : ∃ q, k = q + 1 := ⟨k - 1, by omega⟩
    obtain ⟨r, a1, s1, e1, r0, r1, h1⟩ := pick_tot hl (m := m + 4 * d + 2) (a := a) (s := s) g (by omega) (by unfold Lf at *; omega)
    have r2 := r1 hg
    obtain ⟨b, a2, s2, e2, h2⟩ := one_tot hl (m := m + 4 * d) (a := a1) (s := s1) 2 (by omega) (by unfold Lf at *; omega)
    have hn : wrap64 (n - 1) = n - 1 := w64 (by omega)
    have hr : wrap64 (1 + r) = 1 + r := w64 (by omega)
    simp only [spec_l1Cur_sureWord.l0]
    rw [if_pos (by omega), e1]
    simp only [Option.bind_some]
    rw [e2]
    simp only [Option.bind_some]
    by_cases hb : b = true
    · rw [if_pos hb, if_pos (by omega), hn, hr, w64 (by omega)]
      obtain ⟨ys, a', s', e3, hy, hys, h3⟩ := ih k m a2 s2 (xs ++ [-(1 + r)]) (n - 1) (by omega) (by omega) (by omega) (by simp; omega) (fun x hx => by
        rcases List.mem_append.1 hx with hx | hx
        · exact hxs x hx
        · rw [List.mem_singleton.1 hx]; omega) h2
      exact ⟨ys, a', s', e3, by rw [hy]; simp; omega, hys, h3⟩
    · rw [if_neg hb, if_pos (by omega), hn, hr]
      obtain ⟨ys, a', s', e3, hy, hys, h3⟩ := ih k m a2 s2 (xs ++ [1 + r]) (n - 1) (by omega) (by omega) (by omega) (by simp; omega) (fun x hx => by
        rcases List.mem_append.1 hx with hx | hx
        · exact hxs x hx
        · rw [List.mem_singleton.1 hx]; omega) h2
      exact ⟨ys, a', s', e3, by rw [hy]; simp; omega, hys, h3⟩
theorem sureWord_tot {l : List Int} (hl : Oct l) {m : Nat} {a s : Int} (n : Nat) (hn : n ≤ 900) (g : Int) (hg : 1 ≤ g) (hg2 : g ≤ 1000) (k : Nat) (hk : n < k) (h : Lf (m + 4 * n + 2) a) : ∃ (xs : List Int) (a' s' : Int), spec_l1Cur_sureWord.f k l a s n g = some (xs, a', s') ∧ xs.length ≤ n ∧ (∀ x ∈ xs, x ≠ 0 ∧ -g ≤ x ∧ x ≤ g) ∧ Lf m a' := by
  obtain ⟨r, a1, s1, e1, r0, r1, h1⟩ := pick_tot hl (m := m + 4 * n) (a := a) (s := s) ((n : Int) + 1) (by omega) (by unfold Lf at *; omega)
  have r2 := r1 (by omega)
  obtain ⟨ys, a', s', e2, hy, hys, h2⟩ := sureWord_loop hl g hg hg2 r.toNat k m a1 s1 [] r r0 rfl (by omega) (by simp; omega) (fun x hx => by cases hx) (by unfold Lf at *; omega)
  unfold spec_l1Cur_sureWord.f
  rw [w64 (by omega), e1]
  exact ⟨ys, a', s', e2, by rw [hy]; simp; omega, hys, h2⟩
end Go.Proofs.YtijnadjgmmednaaGreat.PA
