import Derived.Test.YtdcipaaclpedhaaGreatXr29
import Derived.Test.YtdcipaaclpedhaaGreatXr30
import Derived.Test.YtdcipaaclpedhaaGreatXr31
import Derived.Test.YtdcipaaclpedhaaGreatXr33
/- A part of the proof: lemmas that later parts use. -/
set_option linter.unusedVariables false
set_option linter.unusedSimpArgs false
namespace Go.Proofs.YtdcipaaclpedhaaGreat.PA
open Go.RowKit Go.Proofs.YtdcipaaclpedhaaGreatW.PrintWords Go.Proofs.YtdcipaaclpedhaaGreatW.PrintLast Go.Proofs.YtdcipaaclpedhaaGreatW.PrintMore
attribute [local go_sem] max2_int min2_int max_two min_two max_three min_three max_four min_four
attribute [local go_sem high] eqA25
mutual
def laws_FnRootsAndCentres.j0 : Nat → List Int → Int → List (S25) → Bool → ByteArray → ByteArray → Option (Bool)
  | 0, _, _, _, _, _, _ => none
  | k + 1, x1, x6, x7, x75, x255000, x255001 => if x75 = true then (some false) else (laws_FnRootsAndCentres.l0 k x1 x6 x7 (x7.length : Int) 0 x255000 x255001)
def laws_FnRootsAndCentres.l0 : Nat → List Int → Int → List (S25) → Int → Int → ByteArray → ByteArray → Option (Bool)
  | 0, _, _, _, _, _, _, _ => none
  | k + 1, x1, x6, x76, x77, x78, x255000, x255001 => if x78 < x77 then (if 0 ≤ x78 then (if x78 < (x76.length : Int) then ((impl_PowerPair.f ((rd_T25 x76 x78).f0) ((rd_T25 x76 x78).f1) x6).bind fun bt266 => ((impl_ProductPair.f x255000 x255001 ((rd_T25 x76 x78).f0) ((rd_T25 x76 x78).f1)).bind fun bt270 => ((impl_ProductPair.f ((rd_T25 x76 x78).f0) ((rd_T25 x76 x78).f1) x255000 x255001).bind fun bt274 => (if bt266.2.2 = true then ((laws_nReduced.f x255000 x255001).bind fun bt278 => (if (!(bt266.1.toList == bt278.1.toList) || (!(bt266.2.1.toList == bt278.2.toList))) = true then (some false) else (if (bt270.2.2 != bt274.2.2) = true then (some false) else (if bt270.2.2 = true then (if (!(bt270.1.toList == bt274.1.toList) || (!(bt270.2.1.toList == bt274.2.1.toList))) = true then (some false) else (laws_FnRootsAndCentres.l0 k x1 x6 x76 x77 (wrap64 (x78 + 1)) x255000 x255001)) else (laws_FnRootsAndCentres.l0 k x1 x6 x76 x77 (wrap64 (x78 + 1)) x255000 x255001))))) else (if (bt270.2.2 != bt274.2.2) = true then (some false) else (if bt270.2.2 = true then (if (!(bt270.1.toList == bt274.1.toList) || (!(bt270.2.1.toList == bt274.2.1.toList))) = true then (some false) else (laws_FnRootsAndCentres.l0 k x1 x6 x76 x77 (wrap64 (x78 + 1)) x255000 x255001)) else (laws_FnRootsAndCentres.l0 k x1 x6 x76 x77 (wrap64 (x78 + 1)) x255000 x255001))))))) else (none)) else (none)) else ((spec_DrawCommutingWith.f k x1).bind fun bt280 => ((impl_CommutingWith.f bt280.1 bt280.2.1 bt280.2.2).bind fun bt284 => ((spec_CommutingWith.f bt280.1 bt280.2.1 bt280.2.2).bind fun bt288 => (if (bt284.2 != bt288.2) = true then (laws_FnRootsAndCentres.j2 k x1 bt280.2.2 bt284.1 bt284.2 true bt280.1 bt280.2.1) else ((laws_nPairs.f k bt284.1 bt288.1).bind fun t292 => (laws_FnRootsAndCentres.j2 k x1 bt280.2.2 bt284.1 bt284.2 (!t292) bt280.1 bt280.2.1))))))
def laws_FnRootsAndCentres.j2 : Nat → List Int → Int → List (S25) → Bool → Bool → ByteArray → ByteArray → Option (Bool)
  | 0, _, _, _, _, _, _, _ => none
  | k + 1, x1, x20, x21, x22, x146, x284000, x284001 => if x146 = true then (some false) else (if x22 = true then (laws_FnRootsAndCentres.l1 k x1 x20 false 0 x21 (x21.length : Int) 0 x284000 x284001) else (laws_FnRootsAndCentres.j5 k x1))
def laws_FnRootsAndCentres.j5 : Nat → List Int → Option (Bool)
  | 0, _ => none
  | k + 1, x1 => (spec_DrawSmallPairs.f x1).bind fun t301 => ((impl_SmallPairs.f t301).bind fun bt302 => ((spec_SmallPairs.f t301).bind fun bt306 => (if (bt302.2 != bt306.2) = true then (laws_FnRootsAndCentres.j6 k t301 bt302.1 bt302.2 true) else ((laws_nPairs.f k bt302.1 bt306.1).bind fun t310 => (laws_FnRootsAndCentres.j6 k t301 bt302.1 bt302.2 (!t310))))))
def laws_FnRootsAndCentres.j6 : Nat → Int → List (S25) → Bool → Bool → Option (Bool)
  | 0, _, _, _, _ => none
  | k + 1, x33, x34, x35, x215 => if x215 = true then (some false) else (if x35 = true then (laws_FnRootsAndCentres.l2 k x33 x34 0 0) else (some true))
def laws_FnRootsAndCentres.l2 : Nat → Int → List (S25) → Int → Int → Option (Bool)
  | 0, _, _, _, _ => none
  | k + 1, x33, x34, x38, x39 => if x39 ≤ x33 then ((impl_CountReduced.f x39).bind fun bt311 => (if bt311.2 = true then (laws_FnRootsAndCentres.l2 k x33 x34 (wrap64 (x38 + bt311.1)) (wrap64 (x39 + 1))) else (some false))) else (some (x38 == (x34.length : Int)))
def laws_FnRootsAndCentres.l1 : Nat → List Int → Int → Bool → Int → List (S25) → Int → Int → ByteArray → ByteArray → Option (Bool)
  | 0, _, _, _, _, _, _, _, _, _ => none
  | k + 1, x1, x20, x25, x26, x148, x149, x150, x284000, x284001 => if x150 < x149 then (if 0 ≤ x150 then (if x150 < (x148.length : Int) then (if x25 = true then (laws_FnRootsAndCentres.j4 k x1 x20 true x26 x148 x149 x150 x284000 x284001 ((rd_T25 x148 x150).f0) ((rd_T25 x148 x150).f1)) else ((impl_IdentityPair.f).bind fun bt295 => (laws_FnRootsAndCentres.j4 k x1 x20 ((((rd_T25 x148 x150).f0).toList) == bt295.1.toList && ((((rd_T25 x148 x150).f1).toList) == bt295.2.toList)) x26 x148 x149 x150 x284000 x284001 ((rd_T25 x148 x150).f0) ((rd_T25 x148 x150).f1)))) else (none)) else (none)) else (if x25 = true then (laws_FnRootsAndCentres.j5 k x1) else (some false))
def laws_FnRootsAndCentres.j4 : Nat → List Int → Int → Bool → Int → List (S25) → Int → Int → ByteArray → ByteArray → ByteArray → ByteArray → Option (Bool)
  | 0, _, _, _, _, _, _, _, _, _, _, _ => none
  | k + 1, x1, x20, x25, x26, x148, x149, x150, x284000, x284001, x295000, x295001 => (impl_DoCommute.f x284000 x284001 x295000 x295001).bind fun bt297 => ((impl_CaretsOf.f x295000).bind fun bt299 => (if bt297.2 = true then (if bt297.1 = true then (if bt299.2 = true then (if bt299.1 < x26 then (some false) else (if bt299.1 > x20 then (some false) else (laws_FnRootsAndCentres.l1 k x1 x20 x25 bt299.1 x148 x149 (wrap64 (x150 + 1)) x284000 x284001))) else (some false)) else (some false)) else (if bt299.2 = true then (if bt299.1 < x26 then (some false) else (if bt299.1 > x20 then (some false) else (laws_FnRootsAndCentres.l1 k x1 x20 x25 bt299.1 x148 x149 (wrap64 (x150 + 1)) x284000 x284001))) else (some false))))
end
def laws_FnRootsAndCentres.f (k : Nat) (l0 : List Int) (l1 : List Int) : Option (Bool) := (laws_big.f l0 l1).bind fun t250 => (if t250 = true then (some true) else ((spec_DrawRootsOf.f k l0).bind fun bt251 => ((impl_RootsOf.f bt251.1 bt251.2.1 bt251.2.2).bind fun bt255 => ((spec_RootsOf.f bt251.1 bt251.2.1 bt251.2.2).bind fun bt259 => (if (bt255.2 != bt259.2) = true then (laws_FnRootsAndCentres.j0 k l1 bt251.2.2 bt255.1 true bt251.1 bt251.2.1) else ((laws_nPairs.f k bt255.1 bt259.1).bind fun t263 => (if t263 = true then (laws_FnRootsAndCentres.j0 k l1 bt251.2.2 bt255.1 (decide ((bt255.1.length : Int) > 1)) bt251.1 bt251.2.1) else (laws_FnRootsAndCentres.j0 k l1 bt251.2.2 bt255.1 true bt251.1 bt251.2.1))))))))
def laws_FnRootsAndCentres.T14 : Bool × List (List Nat × List Nat) := (true, [([], []), ([0], [0]), ([1], [1]), ([1], [1]), ([3, 1, 1], [1, 3]), ([2, 4, 1], [1, 2, 4]), ([1, 5], [1, 5]), ([6, 4], [6]), ([7], [7]), ([7], [7]), ([8, 9, 7], [7, 8, 9]), ([7, 10], [7, 10]), ([11, 7], [11]), ([12], [12]), ([13, 12, 12], [12, 13]), ([14], [14]), ([14], [14]), ([15, 16, 14], [14, 15, 16]), ([14, 17, 12], [12, 14, 17]), ([12, 18], [12, 18])])
def laws_FnRootsAndCentres.B14 : List Nat := [0, 1, 3, 3, 11, 31, 63, 127, 255, 255, 1023, 2047, 4095, 8191, 16383, 32767, 32767, 131071, 262143, 524287]
theorem laws_FnRootsAndCentres.tab14 : rtab .any (opsOf Tryz.f3 14) = laws_FnRootsAndCentres.T14 := by kernel_rfl
theorem laws_FnRootsAndCentres.bits14 : waitsOk laws_FnRootsAndCentres.T14.2 laws_FnRootsAndCentres.B14 = true := by kernel_rfl
set_option maxHeartbeats 8000000 in
set_option maxRecDepth 100000 in
theorem laws_FnRootsAndCentres.calls (k : Nat) (A0 : Option Addr) (c0 : Nat) (l0 : List Int) (A1 : Option Addr) (c1 : Nat) (l1 : List Int) (r : Bool) (w : World) (hr0 : Kd.C (Kd.int .u8) w A0 l0.length l0) (hc0 : l0.length ≤ c0) (hr1 : Kd.C (Kd.int .u8) w A1 l1.length l1) (hc1 : l1.length ≤ c1) (h : laws_FnRootsAndCentres.f k l0 l1 = some r) (HRT : Aside0 (r = true)) :
    Calls Tryz.prog 3 #[.slice A0 l0.length c0, .slice A1 l1.length c1] w fun e w' => e = .returned (.bool r) ∧ Below w.heap.size w w' := by
  have hu25 := Tryz.underlying25
  have HR0 := Aside0.mk hr0
  have HC0 := Aside0.mk hc0
  clear hr0 hc0
  have HR1 := Aside0.mk hr1
  have HC1 := Aside0.mk hc1
  clear hr1 hc1
  have HB := Aside0.mk (Below.refl w.heap.size w)
  have H : ((laws_big.f l0 l1).bind fun t250 => (if t250 = true then (some true) else ((spec_DrawRootsOf.f k l0).bind fun bt251 => ((impl_RootsOf.f bt251.1 bt251.2.1 bt251.2.2).bind fun bt255 => ((spec_RootsOf.f bt251.1 bt251.2.1 bt251.2.2).bind fun bt259 => (if (bt255.2 != bt259.2) = true then (laws_FnRootsAndCentres.j0 k l1 bt251.2.2 bt255.1 true bt251.1 bt251.2.1) else ((laws_nPairs.f k bt255.1 bt259.1).bind fun t263 => (if t263 = true then (laws_FnRootsAndCentres.j0 k l1 bt251.2.2 bt255.1 (decide ((bt255.1.length : Int) > 1)) bt251.1 bt251.2.1) else (laws_FnRootsAndCentres.j0 k l1 bt251.2.2 bt255.1 true bt251.1 bt251.2.1))))))))) = some r := h
  clear h
  replace H := Option.bind_eq_some_iff.mp H
  obtain ⟨t250, A30, H⟩ := H
  (try dsimp only at H)
  have A3 := Aside0.mk A30
  clear A30
  by_cases c4 : t250 = true
  · subst c4
    rw [if_pos rfl] at H
    obtain rfl := Option.some.inj H
    go_enter Tryz.func3, Tryz.ntmps3
    go_wp2_with (first | ((with_reducible refine gate_callee (f := 4) rfl ?_); refine goesL_ (some 44) rfl rfl Tryz.func4 (by kernel_rfl) rfl #[.slice A0 l0.length c0, .slice A1 l1.length c1] rfl lm ?_; (with_reducible refine (laws_big.calls _ _ l0 _ _ l1 true _ ?side1 ?side2 ?side3 ?side4 A3.out).mono ?_); (case side1 => repeat (first | exact HR0.out | (with_reducible refine Kd.C_alloc ?_ _) | (with_reducible refine Kd.C_drewN ?_ _) | (with_reducible refine Kd.C_drew ?_))); (case side2 => exact HC0.out); (case side3 => repeat (first | exact HR1.out | (with_reducible refine Kd.C_alloc ?_ _) | (with_reducible refine Kd.C_drewN ?_ _) | (with_reducible refine Kd.C_drew ?_))); (case side4 => exact HC1.out); rintro e w' ⟨rfl, ⟨nd, rfl⟩⟩; refine ⟨_, rfl, ?_⟩))
    go_ret
    exact ⟨by first | rfl | (simp [errW_none, errW_some] <;> rfl) | (simp [*, errW_none, errW_some] <;> rfl), by exact lB HB.out⟩
  replace c4 := Bool.eq_false_iff.mpr c4
  subst c4
  rw [if_neg (show ¬ (false = true) by decide)] at H
  replace H := Option.bind_eq_some_iff.mp H
  obtain ⟨⟨t251, t252, t253⟩, A50, H⟩ := H
  (try dsimp only at H)
  have A5 := Aside0.mk A50
  clear A50
  replace H := Option.bind_eq_some_iff.mp H
  obtain ⟨⟨t255, t258⟩, A60, H⟩ := H
  (try dsimp only at H)
  have A6 := Aside0.mk A60
  clear A60
  replace H := Option.bind_eq_some_iff.mp H
  obtain ⟨⟨t259, t262⟩, A70, H⟩ := H
  (try dsimp only at H)
  have A7 := Aside0.mk A70
  clear A70
  have HC8 := Aside0.mk H
  clear H
  go_enter Tryz.func3, Tryz.ntmps3
  go_upto_region 6 with (first | ((with_reducible refine gate_callee (f := 4) rfl ?_); refine goesL_ (some 44) rfl rfl Tryz.func4 (by kernel_rfl) rfl #[.slice A0 l0.length c0, .slice A1 l1.length c1] rfl lm ?_; (with_reducible refine (laws_big.calls _ _ l0 _ _ l1 false _ ?side1 ?side2 ?side3 ?side4 A3.out).mono ?_); (case side1 => repeat (first | exact HR0.out | (with_reducible refine Kd.C_alloc ?_ _) | (with_reducible refine Kd.C_drewN ?_ _) | (with_reducible refine Kd.C_drew ?_))); (case side2 => exact HC0.out); (case side3 => repeat (first | exact HR1.out | (with_reducible refine Kd.C_alloc ?_ _) | (with_reducible refine Kd.C_drewN ?_ _) | (with_reducible refine Kd.C_drew ?_))); (case side4 => exact HC1.out); rintro e w' ⟨rfl, ⟨nd, rfl⟩⟩; refine ⟨_, rfl, ?_⟩) | ((with_reducible refine gate_callee (f := 5) rfl ?_); refine goesL_ (some 47) rfl rfl Tryz.func5 (by kernel_rfl) rfl #[.slice A0 l0.length c0] rfl lm ?_; (with_reducible refine (spec_DrawRootsOf.calls k _ _ l0 t251 t252 t253 _ ?side1 ?side2 A5.out).mono ?_); (case side1 => repeat (first | exact HR0.out | (with_reducible refine Kd.C_alloc ?_ _) | (with_reducible refine Kd.C_drewN ?_ _) | (with_reducible refine Kd.C_drew ?_))); (case side2 => exact HC0.out); rintro e w9 ⟨rfl, hb⟩; refine ⟨_, rfl, ?_⟩; have n0_ := Aside0.mk (below_step (lB HB.out) hb); clear HB; have HB := n0_; clear n0_; (try clear hb); (try clear hb2); (try clear hk); (try clear hi)) | ((with_reducible refine gate_dst (N := 5) rfl ?_); (try (refine gate_guard (by rfl) ?_; dsimp only)); refine box_event ?hg (N := 5) ?hd (cs := #[.string (⟨#[]⟩ : ByteArray), .string (⟨#[]⟩ : ByteArray)]) (t := 25) ?hr ?_; (case hd => rfl); (case hg => rfl); (case hr => exact lr); intro gb254 hg w10 hbox hb; have n0_ := Aside0.mk (below_step (lB HB.out) hb); have n1_ := Aside0.mk (hbox); have n2_ := gw hg (lB HB.out); have n3_ := gw hg (lB HB.out); clear HB; have HB := n0_; have BK254 := n1_; have GW254 := n2_; have GE254 := n3_; clear n0_ n1_ n2_ n3_; clear hb hbox hg; have hcz11_0 : w10.cell? ⟨gb254, 0, none⟩ = some (.string (⟨#[]⟩ : ByteArray)) := (blk_cell BK254.out 0).trans rfl; have hcz11_1 : w10.cell? ⟨gb254, 1, none⟩ = some (.string (⟨#[]⟩ : ByteArray)) := (blk_cell BK254.out 1).trans rfl; have hfz11_0 := blk_frozen BK254.out 0; have hfz11_1 := blk_frozen BK254.out 1) | ((with_reducible refine gate_callee (f := 6) rfl ?_); refine goesL_ (some 53) rfl rfl Tryz.func6 (by kernel_rfl) rfl #[.agg #[.string t251, .string t252], .int .i64 t253] rfl lm ?_; (with_reducible refine (impl_RootsOf.calls t251 t252 t253 t255 t258 _ A6.out).mono ?_); rintro e w12 ⟨v256, rfl, ho0, hb⟩; refine ⟨_, rfl, ?_⟩; have n0_ := Aside0.mk (Kd.R_lower (Kd.R_newB ho0 (g := gb254) (o := .cells #[.string t251, .string t252] 25 (0, 0)) (by (with_reducible repeat (first | refine blk_drewN ?_ _ | refine blk_drew ?_ | refine blk_alloc ?_ _)); refine blk_put (cs := #[.string t251, .string (⟨#[]⟩ : ByteArray)]) ?_ 1 _ rfl; (with_reducible repeat (first | refine blk_drewN ?_ _ | refine blk_drew ?_ | refine blk_alloc ?_ _)); refine blk_put (cs := #[.string (⟨#[]⟩ : ByteArray), .string (⟨#[]⟩ : ByteArray)]) ?_ 0 _ rfl; exact lb BK254.out)) (below_size (lB HB.out))); have n1_ := Aside0.mk (blk_below (g := gb254) (o := .cells #[.string t251, .string t252] 25 (0, 0)) (by (with_reducible repeat (first | refine blk_drewN ?_ _ | refine blk_drew ?_ | refine blk_alloc ?_ _)); refine blk_put (cs := #[.string t251, .string (⟨#[]⟩ : ByteArray)]) ?_ 1 _ rfl; (with_reducible repeat (first | refine blk_drewN ?_ _ | refine blk_drew ?_ | refine blk_alloc ?_ _)); refine blk_put (cs := #[.string (⟨#[]⟩ : ByteArray), .string (⟨#[]⟩ : ByteArray)]) ?_ 0 _ rfl; exact lb BK254.out) hb); have n2_ := Aside0.mk (below_step (lB HB.out) hb); clear BK254 HB; have HO257 := n0_; have BK254 := n1_; have HB := n2_; clear n0_ n1_ n2_; (try clear hb); (try clear hb2); (try clear hk); (try clear hi); (try clear ho0); have hcz13_0 : w12.cell? ⟨gb254, 0, none⟩ = some (.string t251) := (blk_cell BK254.out 0).trans rfl; have hcz13_1 : w12.cell? ⟨gb254, 1, none⟩ = some (.string t252) := (blk_cell BK254.out 1).trans rfl; have hfz13_0 := blk_frozen BK254.out 0; have hfz13_1 := blk_frozen BK254.out 1) | ((with_reducible refine gate_callee (f := 7) rfl ?_); refine goesL_ (some 59) rfl rfl Tryz.func7 (by kernel_rfl) rfl #[.agg #[.string t251, .string t252], .int .i64 t253] rfl lm ?_; (with_reducible refine (spec_RootsOf.calls t251 t252 t253 t259 t262 _ A7.out).mono ?_); rintro e w14 ⟨v260, rfl, ho0, hb⟩; refine ⟨_, rfl, ?_⟩; have n0_ := Aside0.mk (Kd.R_elder' (by (with_reducible repeat (first | apply Kd.R_alloc | apply Kd.R_drewN | apply Kd.R_drew)); exact HO257.out) (Kd.R_base ho0) hb); have n1_ := Aside0.mk (Kd.R_lower (Kd.R_newB (Kd.R_new' ho0 (Kd.R_lt (by (with_reducible repeat (first | apply Kd.R_alloc | apply Kd.R_drewN | apply Kd.R_drew)); exact HO257.out))) (g := gb254) (o := .cells #[.string t251, .string t252] 25 (0, 0)) (lb BK254.out)) (below_size (lB HB.out))); have n2_ := Aside0.mk (blk_below (lb BK254.out) hb); have n3_ := Aside0.mk (below_step (lB HB.out) hb); clear HO257 BK254 HB; have HO257 := n0_; have HO261 := n1_; have BK254 := n2_; have HB := n3_; clear n0_ n1_ n2_ n3_; (try clear hb); (try clear hb2); (try clear hk); (try clear hi); (try clear ho0)))
  (try simp only [Act.put, List.setIfInBounds_toArray, List.set_cons_zero, List.set_cons_succ])
  go_cut [75] (fun v75 wc => ∃ (kq : Nat) (x75_7 : Bool), v75 = .bool x75_7 ∧ Aside0 (laws_FnRootsAndCentres.j0 kq l1 t253 t255 x75_7 t251 t252 = some r) ∧ Aside0 (kq ≤ k) ∧ Aside0 (Kd.R k25 25 wc w.heap.size (fun k_ => k_ ≠ gb254) v256 t255) ∧ Aside0 (wc.heap[gb254]? = some (.cells #[.string t251, .string t252] 25 (0, 0))) ∧ Aside0 (Below w.heap.size w wc))
  case first =>
   as_aux_lemma =>
   have H := HC8.out
   clear HC8
   by_cases c15 : (t258 != t262) = true
   · rw [if_pos c15] at H
     have c15b0 : (t258 != t262) = true := c15
     (try (have c15b1 : decide (t258 = t262) = false := by simpa using c15))
     (try (have c15b2 : (t258 == t262) = false := by simpa using c15))
     (try (have c15b3 : ¬ (t258 = t262) := by simpa using c15))
     clear c15
     (first | rw [c15b0] | (simp only [i64_w, i32_w]; rw [c15b0]) | skip)
     have H' := Aside0.mk H
     clear H
     go_wp2
     go_meet
     case rel => exact ⟨_, (true), (by first | rfl | (simp; done) | (simp [*]; done)), H', ⟨by first | omega | exact Nat.le_refl _⟩, ⟨by (with_reducible repeat (first | apply Kd.R_alloc | apply Kd.R_drewN | apply Kd.R_drew)); exact Kd.R_mono HO257.out (fun _ hk => hk.1.2)⟩, ⟨lb BK254.out⟩, ⟨by exact lB HB.out⟩⟩
   rw [if_neg c15] at H
   have c15b0 : (t258 != t262) = false := by simpa using c15
   (try (have c15b1 : decide (t258 = t262) = true := by simpa using c15))
   (try (have c15b2 : (t258 == t262) = true := by simpa using c15))
   clear c15
   (first | rw [c15b0] | (simp only [i64_w, i32_w]; rw [c15b0]) | skip)
   replace H := Option.bind_eq_some_iff.mp H
   obtain ⟨t263, A160, H⟩ := H
   (try dsimp only at H)
   have A16 := Aside0.mk A160
   clear A160
   by_cases c17 : t263 = true
   · subst c17
     rw [if_pos rfl] at H
     have H' := Aside0.mk H
     clear H
     obtain ⟨Ao18, co18, eo18⟩ := Kd.R_slice HO257.out
     subst eo18
     obtain ⟨Ao19, co19, eo19⟩ := Kd.R_slice HO261.out
     subst eo19
     go_wp2_with (first | (go_at_call 8; (with_reducible refine (laws_nPairs.calls k _ _ t255 _ _ t259 true _ ?side1 ?side2 ?side3 ?side4 A16.out).mono ?_); (case side1 => repeat (first | exact (Kd.R_reads' HO257.out).2.2 | (with_reducible refine Kd.C_alloc ?_ _) | (with_reducible refine Kd.C_drewN ?_ _) | (with_reducible refine Kd.C_drew ?_))); (case side2 => exact (Kd.R_reads' HO257.out).2.1); (case side3 => repeat (first | exact (Kd.R_reads' HO261.out).2.2 | (with_reducible refine Kd.C_alloc ?_ _) | (with_reducible refine Kd.C_drewN ?_ _) | (with_reducible refine Kd.C_drew ?_))); (case side4 => exact (Kd.R_reads' HO261.out).2.1); rintro e w' ⟨rfl, ⟨nd, rfl⟩⟩))
     go_meet
     case rel => exact ⟨_, (decide ((t255.length : Int) > 1)), (by first | rfl | (simp; done) | (simp [*]; done)), H', ⟨by first | omega | exact Nat.le_refl _⟩, ⟨by (with_reducible repeat (first | apply Kd.R_alloc | apply Kd.R_drewN | apply Kd.R_drew)); exact Kd.R_mono HO257.out (fun _ hk => hk.1.2)⟩, ⟨lb BK254.out⟩, ⟨by exact lB HB.out⟩⟩
   replace c17 := Bool.eq_false_iff.mpr c17
   subst c17
   rw [if_neg (show ¬ (false = true) by decide)] at H
   have H' := Aside0.mk H
   clear H
   obtain ⟨Ao20, co20, eo20⟩ := Kd.R_slice HO257.out
   subst eo20
   obtain ⟨Ao21, co21, eo21⟩ := Kd.R_slice HO261.out
   subst eo21
   go_wp2_with (first | (go_at_call 8; (with_reducible refine (laws_nPairs.calls k _ _ t255 _ _ t259 false _ ?side1 ?side2 ?side3 ?side4 A16.out).mono ?_); (case side1 => repeat (first | exact (Kd.R_reads' HO257.out).2.2 | (with_reducible refine Kd.C_alloc ?_ _) | (with_reducible refine Kd.C_drewN ?_ _) | (with_reducible refine Kd.C_drew ?_))); (case side2 => exact (Kd.R_reads' HO257.out).2.1); (case side3 => repeat (first | exact (Kd.R_reads' HO261.out).2.2 | (with_reducible refine Kd.C_alloc ?_ _) | (with_reducible refine Kd.C_drewN ?_ _) | (with_reducible refine Kd.C_drew ?_))); (case side4 => exact (Kd.R_reads' HO261.out).2.1); rintro e w' ⟨rfl, ⟨nd, rfl⟩⟩))
   go_meet
   case rel => exact ⟨_, (true), (by first | rfl | (simp; done) | (simp [*]; done)), H', ⟨by first | omega | exact Nat.le_refl _⟩, ⟨by (with_reducible repeat (first | apply Kd.R_alloc | apply Kd.R_drewN | apply Kd.R_drew)); exact Kd.R_mono HO257.out (fun _ hk => hk.1.2)⟩, ⟨lb BK254.out⟩, ⟨by exact lB HB.out⟩⟩
  case rest =>
  as_aux_lemma =>
  clear HC8
  (try clear c1); (try clear c4); (try clear hcz11_0); (try clear hcz11_1); (try clear hcz13_0); (try clear hcz13_1); (try clear hfz11_0); (try clear hfz11_1); (try clear hfz13_0); (try clear hfz13_1)
  obtain ⟨kq, x75_7, rfl, HA, HJ7, HO_7, BK254, HB⟩ := hcut
  cases kq with
  | zero => exact absurd HA.out (by simp [laws_FnRootsAndCentres.j0])
  | succ kj7 =>
   have H := HA.out
   clear HA
   simp only [laws_FnRootsAndCentres.j0] at H
   by_cases c22 : x75_7 = true
   · subst c22
     rw [if_pos rfl] at H
     exact absurd ((Option.some.inj H).trans HRT.out) (by decide)
   replace c22 := Bool.eq_false_iff.mpr c22
   subst c22
   rw [if_neg (show ¬ (false = true) by decide)] at H
   have H' := Aside0.mk H
   clear H
   obtain ⟨Ao23, co23, eo23⟩ := Kd.R_slice HO_7.out
   subst eo23
   go_wp2
   go_loopg [78] kj7 (fun kq v78 w' => ∃ (x78_2 : Int), v78 = .int .i64 x78_2 ∧ Aside0 (laws_FnRootsAndCentres.l0 kq l1 t253 t255 (t255.length : Int) x78_2 t251 t252 = some r) ∧ Aside0 (kq ≤ kj7) ∧ Aside0 (Kd.R k25 25 w' w.heap.size (fun k_ => k_ ≠ gb254) (.slice Ao23 t255.length co23) t255) ∧ Aside0 (w'.heap[gb254]? = some (.cells #[.string t251, .string t252] 25 (0, 0))) ∧ Aside0 (Below w.heap.size w w'))
   case atStart => exact ⟨(0), (by first | rfl | (simp; done) | (simp [*]; done)), H', ⟨Nat.le_refl _⟩, ⟨by (with_reducible repeat (first | apply Kd.R_alloc | apply Kd.R_drewN | apply Kd.R_drew)); exact HO_7.out⟩, ⟨lb BK254.out⟩, ⟨by exact lB HB.out⟩⟩
   case round =>
    clear H'
    (try clear c22)
    obtain ⟨x78_2, rfl, HA, HK2, HO_76, BK254, HB⟩ := hrel
    cases gk with
    | zero => exact absurd HA.out (by simp [laws_FnRootsAndCentres.l0])
    | succ k2 =>
      have H := HA.out
      clear HA
      simp only [laws_FnRootsAndCentres.l0] at H
      by_cases c24 : x78_2 < (t255.length : Int)
      · rw [if_pos c24] at H
        have c24b0 : decide (x78_2 < (t255.length : Int)) = true := decide_eq_true c24
        clear c24
        by_cases c25 : 0 ≤ x78_2
        · rw [if_pos c25] at H
          have c25b0 : decide (0 ≤ x78_2) = true := decide_eq_true c25
          clear c25
          by_cases c26 : x78_2 < (t255.length : Int)
          · rw [if_pos c26] at H
            have c26b0 : decide (x78_2 < (t255.length : Int)) = true := decide_eq_true c26
            clear c26
            replace H := Option.bind_eq_some_iff.mp H
            obtain ⟨⟨t266, t267, t268⟩, A270, H⟩ := H
            replace H : ((impl_ProductPair.f t251 t252 ((rd_T25 t255 x78_2).f0) ((rd_T25 t255 x78_2).f1)).bind fun bt270 => ((impl_ProductPair.f ((rd_T25 t255 x78_2).f0) ((rd_T25 t255 x78_2).f1) t251 t252).bind fun bt274 => (if t268 = true then ((laws_nReduced.f t251 t252).bind fun bt278 => (if (!(t266.toList == bt278.1.toList) || (!(t267.toList == bt278.2.toList))) = true then (some false) else (if (bt270.2.2 != bt274.2.2) = true then (some false) else (if bt270.2.2 = true then (if (!(bt270.1.toList == bt274.1.toList) || (!(bt270.2.1.toList == bt274.2.1.toList))) = true then (some false) else (laws_FnRootsAndCentres.l0 k2 l1 t253 t255 (t255.length : Int) (wrap64 (x78_2 + 1)) t251 t252)) else (laws_FnRootsAndCentres.l0 k2 l1 t253 t255 (t255.length : Int) (wrap64 (x78_2 + 1)) t251 t252))))) else (if (bt270.2.2 != bt274.2.2) = true then (some false) else (if bt270.2.2 = true then (if (!(bt270.1.toList == bt274.1.toList) || (!(bt270.2.1.toList == bt274.2.1.toList))) = true then (some false) else (laws_FnRootsAndCentres.l0 k2 l1 t253 t255 (t255.length : Int) (wrap64 (x78_2 + 1)) t251 t252)) else (laws_FnRootsAndCentres.l0 k2 l1 t253 t255 (t255.length : Int) (wrap64 (x78_2 + 1)) t251 t252)))))) = some r := H
            have A27 := Aside0.mk A270
            clear A270
            replace H := Option.bind_eq_some_iff.mp H
            obtain ⟨⟨t270, t271, t272⟩, A280, H⟩ := H
            replace H : ((impl_ProductPair.f ((rd_T25 t255 x78_2).f0) ((rd_T25 t255 x78_2).f1) t251 t252).bind fun bt274 => (if t268 = true then ((laws_nReduced.f t251 t252).bind fun bt278 => (if (!(t266.toList == bt278.1.toList) || (!(t267.toList == bt278.2.toList))) = true then (some false) else (if (t272 != bt274.2.2) = true then (some false) else (if t272 = true then (if (!(t270.toList == bt274.1.toList) || (!(t271.toList == bt274.2.1.toList))) = true then (some false) else (laws_FnRootsAndCentres.l0 k2 l1 t253 t255 (t255.length : Int) (wrap64 (x78_2 + 1)) t251 t252)) else (laws_FnRootsAndCentres.l0 k2 l1 t253 t255 (t255.length : Int) (wrap64 (x78_2 + 1)) t251 t252))))) else (if (t272 != bt274.2.2) = true then (some false) else (if t272 = true then (if (!(t270.toList == bt274.1.toList) || (!(t271.toList == bt274.2.1.toList))) = true then (some false) else (laws_FnRootsAndCentres.l0 k2 l1 t253 t255 (t255.length : Int) (wrap64 (x78_2 + 1)) t251 t252)) else (laws_FnRootsAndCentres.l0 k2 l1 t253 t255 (t255.length : Int) (wrap64 (x78_2 + 1)) t251 t252))))) = some r := H
            have A28 := Aside0.mk A280
            clear A280
            replace H := Option.bind_eq_some_iff.mp H
            obtain ⟨⟨t274, t275, t276⟩, A290, H⟩ := H
            replace H : (if t268 = true then ((laws_nReduced.f t251 t252).bind fun bt278 => (if (!(t266.toList == bt278.1.toList) || (!(t267.toList == bt278.2.toList))) = true then (some false) else (if (t272 != t276) = true then (some false) else (if t272 = true then (if (!(t270.toList == t274.toList) || (!(t271.toList == t275.toList))) = true then (some false) else (laws_FnRootsAndCentres.l0 k2 l1 t253 t255 (t255.length : Int) (wrap64 (x78_2 + 1)) t251 t252)) else (laws_FnRootsAndCentres.l0 k2 l1 t253 t255 (t255.length : Int) (wrap64 (x78_2 + 1)) t251 t252))))) else (if (t272 != t276) = true then (some false) else (if t272 = true then (if (!(t270.toList == t274.toList) || (!(t271.toList == t275.toList))) = true then (some false) else (laws_FnRootsAndCentres.l0 k2 l1 t253 t255 (t255.length : Int) (wrap64 (x78_2 + 1)) t251 t252)) else (laws_FnRootsAndCentres.l0 k2 l1 t253 t255 (t255.length : Int) (wrap64 (x78_2 + 1)) t251 t252)))) = some r := H
            have A29 := Aside0.mk A290
            clear A290
            by_cases c30 : t268 = true
            · subst c30
              have H1 : ((laws_nReduced.f t251 t252).bind fun bt278 => (if (!(t266.toList == bt278.1.toList) || (!(t267.toList == bt278.2.toList))) = true then (some false) else (if (t272 != t276) = true then (some false) else (if t272 = true then (if (!(t270.toList == t274.toList) || (!(t271.toList == t275.toList))) = true then (some false) else (laws_FnRootsAndCentres.l0 k2 l1 t253 t255 (t255.length : Int) (wrap64 (x78_2 + 1)) t251 t252)) else (laws_FnRootsAndCentres.l0 k2 l1 t253 t255 (t255.length : Int) (wrap64 (x78_2 + 1)) t251 t252))))) = some r := by rw [if_pos rfl] at H; exact H
              clear H
              have H := H1
              clear H1
              replace H := Option.bind_eq_some_iff.mp H
              obtain ⟨⟨t278, t279⟩, A310, H⟩ := H
              replace H : (if (!(t266.toList == t278.toList) || (!(t267.toList == t279.toList))) = true then (some false) else (if (t272 != t276) = true then (some false) else (if t272 = true then (if (!(t270.toList == t274.toList) || (!(t271.toList == t275.toList))) = true then (some false) else (laws_FnRootsAndCentres.l0 k2 l1 t253 t255 (t255.length : Int) (wrap64 (x78_2 + 1)) t251 t252)) else (laws_FnRootsAndCentres.l0 k2 l1 t253 t255 (t255.length : Int) (wrap64 (x78_2 + 1)) t251 t252)))) = some r := H
              have A31 := Aside0.mk A310
              clear A310
              by_cases c32 : (!(t266.toList == t278.toList) || (!(t267.toList == t279.toList))) = true
              · rw [if_pos c32] at H
                have c32b0 : (!(t266.toList == t278.toList) || (!(t267.toList == t279.toList))) = true := c32
                clear c32
                exact absurd ((Option.some.inj H).trans HRT.out) (by decide)
              · rw [if_neg c32] at H
                have c32b0 : (!(t266.toList == t278.toList) || (!(t267.toList == t279.toList))) = false := by simpa using c32
                clear c32
                by_cases c33 : (t272 != t276) = true
                · rw [if_pos c33] at H
                  have c33b0 : (t272 != t276) = true := c33
                  (try (have c33b1 : decide (t272 = t276) = false := by simpa using c33))
                  (try (have c33b2 : (t272 == t276) = false := by simpa using c33))
                  (try (have c33b3 : ¬ (t272 = t276) := by simpa using c33))
                  clear c33
                  exact absurd ((Option.some.inj H).trans HRT.out) (by decide)
                · rw [if_neg c33] at H
                  have c33b0 : (t272 != t276) = false := by simpa using c33
                  (try (have c33b1 : decide (t272 = t276) = true := by simpa using c33))
                  (try (have c33b2 : (t272 == t276) = true := by simpa using c33))
                  clear c33
                  by_cases c34 : t272 = true
                  · subst c34
                    have H1 : (if (!(t270.toList == t274.toList) || (!(t271.toList == t275.toList))) = true then (some false) else (laws_FnRootsAndCentres.l0 k2 l1 t253 t255 (t255.length : Int) (wrap64 (x78_2 + 1)) t251 t252)) = some r := by rw [if_pos rfl] at H; exact H
                    clear H
                    have H := H1
                    clear H1
                    by_cases c35 : (!(t270.toList == t274.toList) || (!(t271.toList == t275.toList))) = true
                    · rw [if_pos c35] at H
                      have c35b0 : (!(t270.toList == t274.toList) || (!(t271.toList == t275.toList))) = true := c35
                      clear c35
                      exact absurd ((Option.some.inj H).trans HRT.out) (by decide)
                    · rw [if_neg c35] at H
                      have c35b0 : (!(t270.toList == t274.toList) || (!(t271.toList == t275.toList))) = false := by simpa using c35
                      clear c35
                      have H' := Aside0.mk H
                      clear H
                      have p264 : 0 ≤ (x78_2 : Int) := of_decide_eq_true (by first | (with_reducible assumption) | assumption)
                      have q264 : x78_2 < (t255.length : Int) := of_decide_eq_true (by first | (with_reducible assumption) | assumption)
                      obtain ⟨ad264, e264, hx264_0, hx264_1⟩ := at_T25 (Kd.R_reads' HO_76.out).2.2 x78_2 p264 q264
                      cases e264
                      replace p264 := eq_true p264
                      replace q264 := eq_true q264
                      try go_wp2_with (first | ((with_reducible refine gate_dst (N := 12) rfl ?_); (try (refine gate_guard (by rfl) ?_; dsimp only)); refine box_event ?hg (N := 12) ?hd (cs := #[.string (⟨#[]⟩ : ByteArray), .string (⟨#[]⟩ : ByteArray)]) (t := 25) ?hr ?_; (case hd => rfl); (case hg => rfl); (case hr => exact lr); intro gb265 hg w36 hbox hb; have n0_ := Aside0.mk (Kd.R_below (Kd.R_elderB (by (with_reducible repeat (first | apply Kd.R_alloc | apply Kd.R_drewN | apply Kd.R_drew)); exact HO_76.out) gb265 (Nat.le_of_eq hg.symm)) hb); have n1_ := Aside0.mk (blk_below (lb BK254.out) hb); have n2_ := Aside0.mk (below_step (lB HB.out) hb); have n3_ := Aside0.mk (hbox); have n4_ := gw hg (lB HB.out); have n5_ := gw hg (lB HB.out); have n6_ := na hg (lb BK254.out); have n7_ := nz hg (lb BK254.out); clear HO_76 BK254 HB; have HO_76 := n0_; have BK254 := n1_; have HB := n2_; have BK265 := n3_; have GW265 := n4_; have GE265 := n5_; have NB254_265 := n6_; have NB265_254 := n7_; clear n0_ n1_ n2_ n3_ n4_ n5_ n6_ n7_; clear hb hbox hg; have hnb37 := NB265_254.out; have hnc37 := NB254_265.out; have hcz38_0 : w36.cell? ⟨gb265, 0, none⟩ = some (.string (⟨#[]⟩ : ByteArray)) := (blk_cell BK265.out 0).trans rfl; have hcz38_1 : w36.cell? ⟨gb265, 1, none⟩ = some (.string (⟨#[]⟩ : ByteArray)) := (blk_cell BK265.out 1).trans rfl; have hfz38_0 := blk_frozen BK265.out 0; have hfz38_1 := blk_frozen BK265.out 1) | ((with_reducible refine gate_callee (f := 9) rfl ?_); refine goesL_ (some 85) rfl rfl Tryz.func9 (by kernel_rfl) rfl #[.agg #[.string ((rd_T25 t255 x78_2).f0), .string ((rd_T25 t255 x78_2).f1)], .int .i64 t253] rfl lm ?_; (with_reducible refine (impl_PowerPair.calls ((rd_T25 t255 x78_2).f0) ((rd_T25 t255 x78_2).f1) t253 t266 t267 true _ A27.out).mono ?_); rintro e w39 ⟨rfl, hb⟩; refine ⟨_, rfl, ?_⟩; have n0_ := Aside0.mk (Kd.R_below (by (with_reducible repeat (first | apply Kd.R_alloc | apply Kd.R_drewN | apply Kd.R_drew)); exact (Kd.R_mono (Kd.R_far (p := ⟨gb265, 1, none⟩) (Kd.R_far (p := ⟨gb265, 0, none⟩) (Kd.R_mono HO_76.out (fun k_ hk => (⟨hk, hk.2⟩ : _ ∧ k_ ≠ gb265))) (fun _ hk => hk.2) (.string ((rd_T25 t255 x78_2).f0))) (fun _ hk => hk.2) (.string ((rd_T25 t255 x78_2).f1))) (fun _ h_ => h_.1))) hb); have n1_ := Aside0.mk (blk_below (g := gb254) (o := .cells #[.string t251, .string t252] 25 (0, 0)) (by (with_reducible repeat (first | refine blk_drewN ?_ _ | refine blk_drew ?_ | refine blk_alloc ?_ _)); refine blk_far ?_ NB254_265.out _; (with_reducible repeat (first | refine blk_drewN ?_ _ | refine blk_drew ?_ | refine blk_alloc ?_ _)); refine blk_far ?_ NB254_265.out _; exact lb BK254.out) hb); have n2_ := Aside0.mk (blk_below (g := gb265) (o := .cells #[.string ((rd_T25 t255 x78_2).f0), .string ((rd_T25 t255 x78_2).f1)] 25 (0, 0)) (by (with_reducible repeat (first | refine blk_drewN ?_ _ | refine blk_drew ?_ | refine blk_alloc ?_ _)); refine blk_put (cs := #[.string ((rd_T25 t255 x78_2).f0), .string (⟨#[]⟩ : ByteArray)]) ?_ 1 _ rfl; (with_reducible repeat (first | refine blk_drewN ?_ _ | refine blk_drew ?_ | refine blk_alloc ?_ _)); refine blk_put (cs := #[.string (⟨#[]⟩ : ByteArray), .string (⟨#[]⟩ : ByteArray)]) ?_ 0 _ rfl; exact lb BK265.out) hb); have n3_ := Aside0.mk (below_step (lB HB.out) hb); clear HO_76 BK254 BK265 HB; have HO_76 := n0_; have BK254 := n1_; have BK265 := n2_; have HB := n3_; clear n0_ n1_ n2_ n3_; (try clear hb); (try clear hb2); (try clear hk); (try clear hi)) | ((with_reducible refine gate_dst (N := 13) rfl ?_); (try (refine gate_guard (by rfl) ?_; dsimp only)); refine box_event ?hg (N := 13) ?hd (cs := #[.string (⟨#[]⟩ : ByteArray), .string (⟨#[]⟩ : ByteArray)]) (t := 25) ?hr ?_; (case hd => rfl); (case hg => rfl); (case hr => exact lr); intro gb269 hg w40 hbox hb; have n0_ := Aside0.mk (Kd.R_below (Kd.R_elderB (by (with_reducible repeat (first | apply Kd.R_alloc | apply Kd.R_drewN | apply Kd.R_drew)); exact HO_76.out) gb269 (Nat.le_of_eq hg.symm)) hb); have n1_ := Aside0.mk (blk_below (lb BK254.out) hb); have n2_ := Aside0.mk (blk_below (lb BK265.out) hb); have n3_ := Aside0.mk (below_step (lB HB.out) hb); have n4_ := Aside0.mk (hbox); have n5_ := gw hg (lB HB.out); have n6_ := gw hg (lB HB.out); have n7_ := na hg (lb BK254.out); have n8_ := nz hg (lb BK254.out); have n9_ := na hg (lb BK265.out); have n10_ := nz hg (lb BK265.out); clear HO_76 BK254 BK265 HB; have HO_76 := n0_; have BK254 := n1_; have BK265 := n2_; have HB := n3_; have BK269 := n4_; have GW269 := n5_; have GE269 := n6_; have NB254_269 := n7_; have NB269_254 := n8_; have NB265_269 := n9_; have NB269_265 := n10_; clear n0_ n1_ n2_ n3_ n4_ n5_ n6_ n7_ n8_ n9_ n10_; clear hb hbox hg; have hnb41 := NB269_254.out; have hnc41 := NB254_269.out; have hnb42 := NB269_265.out; have hnc42 := NB265_269.out; have hcz43_0 : w40.cell? ⟨gb269, 0, none⟩ = some (.string (⟨#[]⟩ : ByteArray)) := (blk_cell BK269.out 0).trans rfl; have hcz43_1 : w40.cell? ⟨gb269, 1, none⟩ = some (.string (⟨#[]⟩ : ByteArray)) := (blk_cell BK269.out 1).trans rfl; have hfz43_0 := blk_frozen BK269.out 0; have hfz43_1 := blk_frozen BK269.out 1; have hcz44_0 : w40.cell? ⟨gb254, 0, none⟩ = some (.string t251) := (blk_cell BK254.out 0).trans rfl; have hcz44_1 : w40.cell? ⟨gb254, 1, none⟩ = some (.string t252) := (blk_cell BK254.out 1).trans rfl; have hfz44_0 := blk_frozen BK254.out 0; have hfz44_1 := blk_frozen BK254.out 1; have hcz45_0 : w40.cell? ⟨gb265, 0, none⟩ = some (.string ((rd_T25 t255 x78_2).f0)) := (blk_cell BK265.out 0).trans rfl; have hcz45_1 : w40.cell? ⟨gb265, 1, none⟩ = some (.string ((rd_T25 t255 x78_2).f1)) := (blk_cell BK265.out 1).trans rfl; have hfz45_0 := blk_frozen BK265.out 0; have hfz45_1 := blk_frozen BK265.out 1) | ((with_reducible refine gate_callee (f := 10) rfl ?_); refine goesL_ (some 91) rfl rfl Tryz.func10 (by kernel_rfl) rfl #[.agg #[.string t251, .string t252], .agg #[.string ((rd_T25 t255 x78_2).f0), .string ((rd_T25 t255 x78_2).f1)]] rfl lm ?_; (with_reducible refine (impl_ProductPair.calls t251 t252 ((rd_T25 t255 x78_2).f0) ((rd_T25 t255 x78_2).f1) t270 t271 true _ A28.out).mono ?_); rintro e w46 ⟨rfl, hb⟩; refine ⟨_, rfl, ?_⟩; have n0_ := Aside0.mk (Kd.R_below (by (with_reducible repeat (first | apply Kd.R_alloc | apply Kd.R_drewN | apply Kd.R_drew)); exact (Kd.R_mono (Kd.R_far (p := ⟨gb269, 1, none⟩) (Kd.R_far (p := ⟨gb269, 0, none⟩) (Kd.R_mono HO_76.out (fun k_ hk => (⟨hk, hk.2⟩ : _ ∧ k_ ≠ gb269))) (fun _ hk => hk.2) (.string t266)) (fun _ hk => hk.2) (.string t267)) (fun _ h_ => h_.1))) hb); have n1_ := Aside0.mk (blk_below (g := gb254) (o := .cells #[.string t251, .string t252] 25 (0, 0)) (by (with_reducible repeat (first | refine blk_drewN ?_ _ | refine blk_drew ?_ | refine blk_alloc ?_ _)); refine blk_far ?_ NB254_269.out _; (with_reducible repeat (first | refine blk_drewN ?_ _ | refine blk_drew ?_ | refine blk_alloc ?_ _)); refine blk_far ?_ NB254_269.out _; exact lb BK254.out) hb); have n2_ := Aside0.mk (blk_below (g := gb265) (o := .cells #[.string ((rd_T25 t255 x78_2).f0), .string ((rd_T25 t255 x78_2).f1)] 25 (0, 0)) (by (with_reducible repeat (first | refine blk_drewN ?_ _ | refine blk_drew ?_ | refine blk_alloc ?_ _)); refine blk_far ?_ NB265_269.out _; (with_reducible repeat (first | refine blk_drewN ?_ _ | refine blk_drew ?_ | refine blk_alloc ?_ _)); refine blk_far ?_ NB265_269.out _; exact lb BK265.out) hb); have n3_ := Aside0.mk (blk_below (g := gb269) (o := .cells #[.string t266, .string t267] 25 (0, 0)) (by (with_reducible repeat (first | refine blk_drewN ?_ _ | refine blk_drew ?_ | refine blk_alloc ?_ _)); refine blk_put (cs := #[.string t266, .string (⟨#[]⟩ : ByteArray)]) ?_ 1 _ rfl; (with_reducible repeat (first | refine blk_drewN ?_ _ | refine blk_drew ?_ | refine blk_alloc ?_ _)); refine blk_put (cs := #[.string (⟨#[]⟩ : ByteArray), .string (⟨#[]⟩ : ByteArray)]) ?_ 0 _ rfl; exact lb BK269.out) hb); have n4_ := Aside0.mk (below_step (lB HB.out) hb); clear HO_76 BK254 BK265 BK269 HB; have HO_76 := n0_; have BK254 := n1_; have BK265 := n2_; have BK269 := n3_; have HB := n4_; clear n0_ n1_ n2_ n3_ n4_; (try clear hb); (try clear hb2); (try clear hk); (try clear hi)) | ((with_reducible refine gate_dst (N := 15) rfl ?_); (try (refine gate_guard (by rfl) ?_; dsimp only)); refine box_event ?hg (N := 15) ?hd (cs := #[.string (⟨#[]⟩ : ByteArray), .string (⟨#[]⟩ : ByteArray)]) (t := 25) ?hr ?_; (case hd => rfl); (case hg => rfl); (case hr => exact lr); intro gb273 hg w47 hbox hb; have n0_ := Aside0.mk (Kd.R_below (Kd.R_elderB (by (with_reducible repeat (first | apply Kd.R_alloc | apply Kd.R_drewN | apply Kd.R_drew)); exact HO_76.out) gb273 (Nat.le_of_eq hg.symm)) hb); have n1_ := Aside0.mk (blk_below (lb BK254.out) hb); have n2_ := Aside0.mk (blk_below (lb BK265.out) hb); have n3_ := Aside0.mk (blk_below (lb BK269.out) hb); have n4_ := Aside0.mk (below_step (lB HB.out) hb); have n5_ := Aside0.mk (hbox); have n6_ := gw hg (lB HB.out); have n7_ := gw hg (lB HB.out); have n8_ := na hg (lb BK254.out); have n9_ := nz hg (lb BK254.out); have n10_ := na hg (lb BK265.out); have n11_ := nz hg (lb BK265.out); have n12_ := na hg (lb BK269.out); have n13_ := nz hg (lb BK269.out); clear HO_76 BK254 BK265 BK269 HB; have HO_76 := n0_; have BK254 := n1_; have BK265 := n2_; have BK269 := n3_; have HB := n4_; have BK273 := n5_; have GW273 := n6_; have GE273 := n7_; have NB254_273 := n8_; have NB273_254 := n9_; have NB265_273 := n10_; have NB273_265 := n11_; have NB269_273 := n12_; have NB273_269 := n13_; clear n0_ n1_ n2_ n3_ n4_ n5_ n6_ n7_ n8_ n9_ n10_ n11_ n12_ n13_; clear hb hbox hg; have hnb48 := NB273_254.out; have hnc48 := NB254_273.out; have hnb49 := NB273_265.out; have hnc49 := NB265_273.out; have hnb50 := NB273_269.out; have hnc50 := NB269_273.out; have hcz51_0 : w47.cell? ⟨gb273, 0, none⟩ = some (.string (⟨#[]⟩ : ByteArray)) := (blk_cell BK273.out 0).trans rfl; have hcz51_1 : w47.cell? ⟨gb273, 1, none⟩ = some (.string (⟨#[]⟩ : ByteArray)) := (blk_cell BK273.out 1).trans rfl; have hfz51_0 := blk_frozen BK273.out 0; have hfz51_1 := blk_frozen BK273.out 1; have hcz52_0 : w47.cell? ⟨gb265, 0, none⟩ = some (.string ((rd_T25 t255 x78_2).f0)) := (blk_cell BK265.out 0).trans rfl; have hcz52_1 : w47.cell? ⟨gb265, 1, none⟩ = some (.string ((rd_T25 t255 x78_2).f1)) := (blk_cell BK265.out 1).trans rfl; have hfz52_0 := blk_frozen BK265.out 0; have hfz52_1 := blk_frozen BK265.out 1; have hcz53_0 : w47.cell? ⟨gb254, 0, none⟩ = some (.string t251) := (blk_cell BK254.out 0).trans rfl; have hcz53_1 : w47.cell? ⟨gb254, 1, none⟩ = some (.string t252) := (blk_cell BK254.out 1).trans rfl; have hfz53_0 := blk_frozen BK254.out 0; have hfz53_1 := blk_frozen BK254.out 1) | ((with_reducible refine gate_callee (f := 10) rfl ?_); refine goesL_ (some 97) rfl rfl Tryz.func10 (by kernel_rfl) rfl #[.agg #[.string ((rd_T25 t255 x78_2).f0), .string ((rd_T25 t255 x78_2).f1)], .agg #[.string t251, .string t252]] rfl lm ?_; (with_reducible refine (impl_ProductPair.calls ((rd_T25 t255 x78_2).f0) ((rd_T25 t255 x78_2).f1) t251 t252 t274 t275 t276 _ A29.out).mono ?_); rintro e w54 ⟨rfl, hb⟩; refine ⟨_, rfl, ?_⟩; have n0_ := Aside0.mk (Kd.R_below (by (with_reducible repeat (first | apply Kd.R_alloc | apply Kd.R_drewN | apply Kd.R_drew)); exact (Kd.R_mono (Kd.R_far (p := ⟨gb273, 1, none⟩) (Kd.R_far (p := ⟨gb273, 0, none⟩) (Kd.R_mono HO_76.out (fun k_ hk => (⟨hk, hk.2⟩ : _ ∧ k_ ≠ gb273))) (fun _ hk => hk.2) (.string t270)) (fun _ hk => hk.2) (.string t271)) (fun _ h_ => h_.1))) hb); have n1_ := Aside0.mk (blk_below (g := gb254) (o := .cells #[.string t251, .string t252] 25 (0, 0)) (by (with_reducible repeat (first | refine blk_drewN ?_ _ | refine blk_drew ?_ | refine blk_alloc ?_ _)); refine blk_far ?_ NB254_273.out _; (with_reducible repeat (first | refine blk_drewN ?_ _ | refine blk_drew ?_ | refine blk_alloc ?_ _)); refine blk_far ?_ NB254_273.out _; exact lb BK254.out) hb); have n2_ := Aside0.mk (blk_below (g := gb265) (o := .cells #[.string ((rd_T25 t255 x78_2).f0), .string ((rd_T25 t255 x78_2).f1)] 25 (0, 0)) (by (with_reducible repeat (first | refine blk_drewN ?_ _ | refine blk_drew ?_ | refine blk_alloc ?_ _)); refine blk_far ?_ NB265_273.out _; (with_reducible repeat (first | refine blk_drewN ?_ _ | refine blk_drew ?_ | refine blk_alloc ?_ _)); refine blk_far ?_ NB265_273.out _; exact lb BK265.out) hb); have n3_ := Aside0.mk (blk_below (g := gb269) (o := .cells #[.string t266, .string t267] 25 (0, 0)) (by (with_reducible repeat (first | refine blk_drewN ?_ _ | refine blk_drew ?_ | refine blk_alloc ?_ _)); refine blk_far ?_ NB269_273.out _; (with_reducible repeat (first | refine blk_drewN ?_ _ | refine blk_drew ?_ | refine blk_alloc ?_ _)); refine blk_far ?_ NB269_273.out _; exact lb BK269.out) hb); have n4_ := Aside0.mk (blk_below (g := gb273) (o := .cells #[.string t270, .string t271] 25 (0, 0)) (by (with_reducible repeat (first | refine blk_drewN ?_ _ | refine blk_drew ?_ | refine blk_alloc ?_ _)); refine blk_put (cs := #[.string t270, .string (⟨#[]⟩ : ByteArray)]) ?_ 1 _ rfl; (with_reducible repeat (first | refine blk_drewN ?_ _ | refine blk_drew ?_ | refine blk_alloc ?_ _)); refine blk_put (cs := #[.string (⟨#[]⟩ : ByteArray), .string (⟨#[]⟩ : ByteArray)]) ?_ 0 _ rfl; exact lb BK273.out) hb); have n5_ := Aside0.mk (below_step (lB HB.out) hb); clear HO_76 BK254 BK265 BK269 BK273 HB; have HO_76 := n0_; have BK254 := n1_; have BK265 := n2_; have BK269 := n3_; have BK273 := n4_; have HB := n5_; clear n0_ n1_ n2_ n3_ n4_ n5_; (try clear hb); (try clear hb2); (try clear hk); (try clear hi)) | ((with_reducible refine gate_dst (N := 17) rfl ?_); (try (refine gate_guard (by rfl) ?_; dsimp only)); refine box_event ?hg (N := 17) ?hd (cs := #[.string (⟨#[]⟩ : ByteArray), .string (⟨#[]⟩ : ByteArray)]) (t := 25) ?hr ?_; (case hd => rfl); (case hg => rfl); (case hr => exact lr); intro gb277 hg w55 hbox hb; have n0_ := Aside0.mk (Kd.R_below (Kd.R_elderB (by (with_reducible repeat (first | apply Kd.R_alloc | apply Kd.R_drewN | apply Kd.R_drew)); exact HO_76.out) gb277 (Nat.le_of_eq hg.symm)) hb); have n1_ := Aside0.mk (blk_below (lb BK254.out) hb); have n2_ := Aside0.mk (blk_below (lb BK265.out) hb); have n3_ := Aside0.mk (blk_below (lb BK269.out) hb); have n4_ := Aside0.mk (blk_below (lb BK273.out) hb); have n5_ := Aside0.mk (below_step (lB HB.out) hb); have n6_ := Aside0.mk (hbox); have n7_ := gw hg (lB HB.out); have n8_ := gw hg (lB HB.out); have n9_ := na hg (lb BK254.out); have n10_ := nz hg (lb BK254.out); have n11_ := na hg (lb BK265.out); have n12_ := nz hg (lb BK265.out); have n13_ := na hg (lb BK269.out); have n14_ := nz hg (lb BK269.out); have n15_ := na hg (lb BK273.out); have n16_ := nz hg (lb BK273.out); clear HO_76 BK254 BK265 BK269 BK273 HB; have HO_76 := n0_; have BK254 := n1_; have BK265 := n2_; have BK269 := n3_; have BK273 := n4_; have HB := n5_; have BK277 := n6_; have GW277 := n7_; have GE277 := n8_; have NB254_277 := n9_; have NB277_254 := n10_; have NB265_277 := n11_; have NB277_265 := n12_; have NB269_277 := n13_; have NB277_269 := n14_; have NB273_277 := n15_; have NB277_273 := n16_; clear n0_ n1_ n2_ n3_ n4_ n5_ n6_ n7_ n8_ n9_ n10_ n11_ n12_ n13_ n14_ n15_ n16_; clear hb hbox hg; have hnb56 := NB277_254.out; have hnc56 := NB254_277.out; have hnb57 := NB277_265.out; have hnc57 := NB265_277.out; have hnb58 := NB277_269.out; have hnc58 := NB269_277.out; have hnb59 := NB277_273.out; have hnc59 := NB273_277.out; have hcz60_0 : w55.cell? ⟨gb277, 0, none⟩ = some (.string (⟨#[]⟩ : ByteArray)) := (blk_cell BK277.out 0).trans rfl; have hcz60_1 : w55.cell? ⟨gb277, 1, none⟩ = some (.string (⟨#[]⟩ : ByteArray)) := (blk_cell BK277.out 1).trans rfl; have hfz60_0 := blk_frozen BK277.out 0; have hfz60_1 := blk_frozen BK277.out 1))
                      have n0_ : Aside0 (Kd.R k25 25 ((w55.setCell ⟨gb277, 0, none⟩ (.string t274)).setCell ⟨gb277, 1, none⟩ (.string t275)) w.heap.size (fun k_ => k_ ≠ gb254 ∧ k_ ≠ gb265 ∧ k_ ≠ gb269 ∧ k_ ≠ gb273 ∧ k_ ≠ gb277) (.slice (some ad264) t255.length co23) t255) := ⟨by (with_reducible repeat (first | apply Kd.R_alloc | apply Kd.R_drewN | apply Kd.R_drew)); exact Kd.R_mono (Kd.R_far (p := ⟨gb277, 1, none⟩) (Kd.R_far (p := ⟨gb277, 0, none⟩) (Kd.R_mono HO_76.out (fun k_ hk => (⟨hk, hk.2⟩ : _ ∧ k_ ≠ gb277))) (fun _ hk => hk.2) (.string t274)) (fun _ hk => hk.2) (.string t275)) (fun _ hk => ⟨hk.1.1.1.1.1, ⟨hk.1.1.1.1.2, ⟨hk.1.1.1.2, ⟨hk.1.1.2, hk.1.2⟩⟩⟩⟩)⟩
                      have n1_ : Aside0 (((w55.setCell ⟨gb277, 0, none⟩ (.string t274)).setCell ⟨gb277, 1, none⟩ (.string t275)).heap[gb254]? = some (.cells #[.string t251, .string t252] 25 (0, 0))) := ⟨by (with_reducible repeat (first | refine blk_drewN ?_ _ | refine blk_drew ?_ | refine blk_alloc ?_ _)); refine blk_far ?_ NB254_277.out _; (with_reducible repeat (first | refine blk_drewN ?_ _ | refine blk_drew ?_ | refine blk_alloc ?_ _)); refine blk_far ?_ NB254_277.out _; exact lb BK254.out⟩
                      have n2_ : Aside0 (((w55.setCell ⟨gb277, 0, none⟩ (.string t274)).setCell ⟨gb277, 1, none⟩ (.string t275)).heap[gb265]? = some (.cells #[.string ((rd_T25 t255 x78_2).f0), .string ((rd_T25 t255 x78_2).f1)] 25 (0, 0))) := ⟨by (with_reducible repeat (first | refine blk_drewN ?_ _ | refine blk_drew ?_ | refine blk_alloc ?_ _)); refine blk_far ?_ NB265_277.out _; (with_reducible repeat (first | refine blk_drewN ?_ _ | refine blk_drew ?_ | refine blk_alloc ?_ _)); refine blk_far ?_ NB265_277.out _; exact lb BK265.out⟩
                      have n3_ : Aside0 (((w55.setCell ⟨gb277, 0, none⟩ (.string t274)).setCell ⟨gb277, 1, none⟩ (.string t275)).heap[gb269]? = some (.cells #[.string t266, .string t267] 25 (0, 0))) := ⟨by (with_reducible repeat (first | refine blk_drewN ?_ _ | refine blk_drew ?_ | refine blk_alloc ?_ _)); refine blk_far ?_ NB269_277.out _; (with_reducible repeat (first | refine blk_drewN ?_ _ | refine blk_drew ?_ | refine blk_alloc ?_ _)); refine blk_far ?_ NB269_277.out _; exact lb BK269.out⟩
                      have n4_ : Aside0 (((w55.setCell ⟨gb277, 0, none⟩ (.string t274)).setCell ⟨gb277, 1, none⟩ (.string t275)).heap[gb273]? = some (.cells #[.string t270, .string t271] 25 (0, 0))) := ⟨by (with_reducible repeat (first | refine blk_drewN ?_ _ | refine blk_drew ?_ | refine blk_alloc ?_ _)); refine blk_far ?_ NB273_277.out _; (with_reducible repeat (first | refine blk_drewN ?_ _ | refine blk_drew ?_ | refine blk_alloc ?_ _)); refine blk_far ?_ NB273_277.out _; exact lb BK273.out⟩
                      have n5_ : Aside0 (((w55.setCell ⟨gb277, 0, none⟩ (.string t274)).setCell ⟨gb277, 1, none⟩ (.string t275)).heap[gb277]? = some (.cells #[.string t274, .string t275] 25 (0, 0))) := ⟨by (with_reducible repeat (first | refine blk_drewN ?_ _ | refine blk_drew ?_ | refine blk_alloc ?_ _)); refine blk_put (cs := #[.string t274, .string (⟨#[]⟩ : ByteArray)]) ?_ 1 _ rfl; (with_reducible repeat (first | refine blk_drewN ?_ _ | refine blk_drew ?_ | refine blk_alloc ?_ _)); refine blk_put (cs := #[.string (⟨#[]⟩ : ByteArray), .string (⟨#[]⟩ : ByteArray)]) ?_ 0 _ rfl; exact lb BK277.out⟩
                      have n6_ : Aside0 (Below w.heap.size w ((w55.setCell ⟨gb277, 0, none⟩ (.string t274)).setCell ⟨gb277, 1, none⟩ (.string t275))) := ⟨by exact lB HB.out⟩
                      (try clear HO_76)
                      (try clear BK254)
                      (try clear BK265)
                      (try clear BK269)
                      (try clear BK273)
                      (try clear BK277)
                      (try clear HB)
                      generalize ((w55.setCell ⟨gb277, 0, none⟩ (.string t274)).setCell ⟨gb277, 1, none⟩ (.string t275)) = w61 at n0_ n1_ n2_ n3_ n4_ n5_ n6_ ⊢
                      have HO_76 := n0_
                      have BK254 := n1_
                      have BK265 := n2_
                      have BK269 := n3_
                      have BK273 := n4_
                      have BK277 := n5_
                      have HB := n6_
                      clear n0_ n1_ n2_ n3_ n4_ n5_ n6_
                      have n0_ := Aside0.mk (Kd.R_drew HO_76.out)
                      have n1_ := Aside0.mk (blk_drew BK254.out)
                      have n2_ := Aside0.mk (blk_drew BK265.out)
                      have n3_ := Aside0.mk (blk_drew BK269.out)
                      have n4_ := Aside0.mk (blk_drew BK273.out)
                      have n5_ := Aside0.mk (blk_drew BK277.out)
                      have n6_ := Aside0.mk (below_drew1 HB.out)
                      clear HO_76
                      clear BK254
                      clear BK265
                      clear BK269
                      clear BK273
                      clear BK277
                      clear HB
                      have HO_76 := n0_
                      have BK254 := n1_
                      have BK265 := n2_
                      have BK269 := n3_
                      have BK273 := n4_
                      have BK277 := n5_
                      have HB := n6_
                      clear n0_ n1_ n2_ n3_ n4_ n5_ n6_
                      refine start_ (n := 20) (S := fun w' => w'.cell? ⟨gb269, 0, none⟩ = some (.string t266) ∧ w'.cell? ⟨gb269, 1, none⟩ = some (.string t267) ∧ w'.cell? ⟨gb254, 0, none⟩ = some (.string t251) ∧ w'.cell? ⟨gb254, 1, none⟩ = some (.string t252) ∧ w'.cell? ⟨gb273, 0, none⟩ = some (.string t270) ∧ w'.cell? ⟨gb273, 1, none⟩ = some (.string t271) ∧ w'.cell? ⟨gb277, 0, none⟩ = some (.string t274) ∧ w'.cell? ⟨gb277, 1, none⟩ = some (.string t275)) (ds := []) #[false, false, false, false, false, false, false, false, false, false, false, false, false, false, false, false, false, false, false, false] (by kernel_rfl) rfl rfl ⟨(blk_cell BK269.out 0).trans rfl, (blk_cell BK269.out 1).trans rfl, (blk_cell BK254.out 0).trans rfl, (blk_cell BK254.out 1).trans rfl, (blk_cell BK273.out 0).trans rfl, (blk_cell BK273.out 1).trans rfl, (blk_cell BK277.out 0).trans rfl, (blk_cell BK277.out 1).trans rfl⟩ (fun hHeld => ?_); refine with_tabW laws_FnRootsAndCentres.tab14 laws_FnRootsAndCentres.bits14 (fun HT_ HW_ => ?_)
                      generalize w61.drew = w62 at HO_76 BK254 BK265 BK269 BK273 BK277 HB hHeld ⊢
                      refine pure_ (i := 0) (N := some 100) (v := ?_) (a' := ?_) #[true, false, false, false, false, false, false, false, false, false, false, false, false, false, false, false, false, false, false, false] rfl rfl (any_of HT_.out (by kernel_rfl)) (fun _ _ _ h => h) (Or.inl ⟨by rfl, ?_⟩) ?_ ?_
                      rotate_left
                      · intro w'
                        go_simp
                        with_reducible rfl
                      rotate_left
                      · simp only [Act.put, List.setIfInBounds_toArray, List.set_cons_zero, List.set_cons_succ, i64_w, i32_w]
                        rfl
                      refine pure_ (i := 1) (N := some 101) (v := ?_) (a' := ?_) #[true, true, false, false, false, false, false, false, false, false, false, false, false, false, false, false, false, false, false, false] rfl rfl (any_of HT_.out (by kernel_rfl)) (fun _ _ _ h => h) (Or.inl ⟨by rfl, ?_⟩) ?_ ?_
                      rotate_left
                      · intro w'
                        go_simp
                        with_reducible rfl
                      rotate_left
                      · simp only [Act.put, List.setIfInBounds_toArray, List.set_cons_zero, List.set_cons_succ, i64_w, i32_w]
                        rfl
                      refine take_ (i := 2) (N := some 102) (v := ?_) (a' := ?_) #[true, true, true, false, false, false, false, false, false, false, false, false, false, false, false, false, false, false, false, false] rfl rfl (take_ofW HT_.out HW_.out (by kernel_rfl)) (fun _ _ _ h => h) (Or.inl ⟨by rfl, ?_⟩) hHeld ?_ ?_
                      rotate_left
                      · rintro w' ⟨s0, s1, s2, s3, s4, s5, s6, s7⟩
                        go_simp
                        with_reducible rfl
                      rotate_left
                      · simp only [Act.put, List.setIfInBounds_toArray, List.set_cons_zero, List.set_cons_succ, i64_w, i32_w]
                        rfl
                      refine take_ (i := 3) (N := some 103) (v := ?_) (a' := ?_) #[true, true, true, true, false, false, false, false, false, false, false, false, false, false, false, false, false, false, false, false] rfl rfl (take_ofW HT_.out HW_.out (by kernel_rfl)) (fun _ _ _ h => h) (Or.inl ⟨by rfl, ?_⟩) hHeld ?_ ?_
                      rotate_left
                      · rintro w' ⟨s0, s1, s2, s3, s4, s5, s6, s7⟩
                        go_simp
                        with_reducible rfl
                      rotate_left
                      · simp only [Act.put, List.setIfInBounds_toArray, List.set_cons_zero, List.set_cons_succ, i64_w, i32_w]
                        rfl
                      refine one_ (i := 4) (N := some 104) #[true, true, true, true, true, false, false, false, false, false, false, false, false, false, false, false, false, false, false, false] rfl rfl (one_of HT_.out (by kernel_rfl)) (by decide) (fun K hK => ?_)
                      refine goes_ Tryz.func11 (by kernel_rfl) rfl #[.agg #[.string t251, .string t252]] (by rfl) rfl rfl lm ?_
                      with_reducible refine (laws_nReduced.calls t251 t252 t278 t279 _ A31.out).mono ?_
                      rintro e w63 ⟨rfl, hb⟩
                      refine ⟨_, rfl, ?_⟩
                      have n0_ := Aside0.mk (Kd.R_below (by (with_reducible repeat (first | apply Kd.R_alloc | apply Kd.R_drewN | apply Kd.R_drew)); exact HO_76.out) hb)
                      have n1_ := Aside0.mk (blk_below (lb BK254.out) hb)
                      have n2_ := Aside0.mk (blk_below (lb BK265.out) hb)
                      have n3_ := Aside0.mk (blk_below (lb BK269.out) hb)
                      have n4_ := Aside0.mk (blk_below (lb BK273.out) hb)
                      have n5_ := Aside0.mk (blk_below (lb BK277.out) hb)
                      have n6_ := Aside0.mk (below_step (lB HB.out) hb)
                      clear HO_76
                      clear BK254
                      clear BK265
                      clear BK269
                      clear BK273
                      clear BK277
                      clear HB
                      have HO_76 := n0_
                      have BK254 := n1_
                      have BK265 := n2_
                      have BK269 := n3_
                      have BK273 := n4_
                      have BK277 := n5_
                      have HB := n6_
                      clear n0_ n1_ n2_ n3_ n4_ n5_ n6_
                      (try clear hb)
                      (try clear hb2)
                      (try clear hk)
                      (try clear hi)
                      refine hK.out _ _ ⟨(blk_cell BK269.out 0).trans rfl, (blk_cell BK269.out 1).trans rfl, (blk_cell BK254.out 0).trans rfl, (blk_cell BK254.out 1).trans rfl, (blk_cell BK273.out 0).trans rfl, (blk_cell BK273.out 1).trans rfl, (blk_cell BK277.out 0).trans rfl, (blk_cell BK277.out 1).trans rfl⟩ (fun hHeld => ?_)
                      clear hK K
                      refine norm_ (a' := ?_) ?_ ?_
                      rotate_left
                      · show Act.put _ (some 104) _ = _
                        simp only [Act.put, List.setIfInBounds_toArray, List.set_cons_zero, List.set_cons_succ, i64_w, i32_w]
                        rfl
                      refine pure_ (i := 5) (N := some 105) (v := ?_) (a' := ?_) #[true, true, true, true, true, true, false, false, false, false, false, false, false, false, false, false, false, false, false, false] rfl rfl (any_of HT_.out (by kernel_rfl)) (fun _ _ _ h => h) (Or.inl ⟨by rfl, ?_⟩) ?_ ?_
                      rotate_left
                      · intro w'
                        go_simp
                        with_reducible rfl
                      rotate_left
                      · simp only [Act.put, List.setIfInBounds_toArray, List.set_cons_zero, List.set_cons_succ, i64_w, i32_w]
                        rfl
                      refine pure_ (i := 6) (N := some 106) (v := ?_) (a' := ?_) #[true, true, true, true, true, true, true, false, false, false, false, false, false, false, false, false, false, false, false, false] rfl rfl (any_of HT_.out (by kernel_rfl)) (fun _ _ _ h => h) (Or.inl ⟨by rfl, ?_⟩) ?_ ?_
                      rotate_left
                      · intro w'
                        go_simp
                        with_reducible rfl
                      rotate_left
                      · simp only [Act.put, List.setIfInBounds_toArray, List.set_cons_zero, List.set_cons_succ, i64_w, i32_w]
                        rfl
                      refine pure_ (i := 7) (N := some 107) (v := ?_) (a' := ?_) #[true, true, true, true, true, true, true, true, false, false, false, false, false, false, false, false, false, false, false, false] rfl rfl (any_of HT_.out (by kernel_rfl)) (fun _ _ _ h => h) (Or.inl ⟨by rfl, ?_⟩) ?_ ?_
                      rotate_left
                      · intro w'
                        go_simp
                        with_reducible rfl
                      rotate_left
                      · simp only [Act.put, List.setIfInBounds_toArray, List.set_cons_zero, List.set_cons_succ, i64_w, i32_w]
                        rfl
                      refine pure_ (i := 8) (N := some 108) (v := ?_) (a' := ?_) #[true, true, true, true, true, true, true, true, true, false, false, false, false, false, false, false, false, false, false, false] rfl rfl (any_of HT_.out (by kernel_rfl)) (fun _ _ _ h => h) (Or.inl ⟨by rfl, ?_⟩) ?_ ?_
                      rotate_left
                      · intro w'
                        go_simp
                        with_reducible rfl
                      rotate_left
                      · simp only [Act.put, List.setIfInBounds_toArray, List.set_cons_zero, List.set_cons_succ, i64_w, i32_w]
                        rfl
                      refine pure_ (i := 9) (N := some 109) (v := ?_) (a' := ?_) #[true, true, true, true, true, true, true, true, true, true, false, false, false, false, false, false, false, false, false, false] rfl rfl (any_of HT_.out (by kernel_rfl)) (fun _ _ _ h => h) (Or.inl ⟨by rfl, ?_⟩) ?_ ?_
                      rotate_left
                      · intro w'
                        go_simp
                        with_reducible rfl
                      rotate_left
                      · simp only [Act.put, List.setIfInBounds_toArray, List.set_cons_zero, List.set_cons_succ, i64_w, i32_w]
                        rfl
                      refine pure_ (i := 10) (N := some 110) (v := ?_) (a' := ?_) #[true, true, true, true, true, true, true, true, true, true, true, false, false, false, false, false, false, false, false, false] rfl rfl (any_of HT_.out (by kernel_rfl)) (fun _ _ _ h => h) (Or.inl ⟨by rfl, ?_⟩) ?_ ?_
                      rotate_left
                      · intro w'
                        go_simp
                        with_reducible rfl
                      rotate_left
                      · simp only [Act.put, List.setIfInBounds_toArray, List.set_cons_zero, List.set_cons_succ, i64_w, i32_w]
                        rfl
                      refine pure_ (i := 11) (N := some 111) (v := ?_) (a' := ?_) #[true, true, true, true, true, true, true, true, true, true, true, true, false, false, false, false, false, false, false, false] rfl rfl (any_of HT_.out (by kernel_rfl)) (fun _ _ _ h => h) (Or.inl ⟨by rfl, ?_⟩) ?_ ?_
                      rotate_left
                      · intro w'
                        go_simp
                        with_reducible rfl
                      rotate_left
                      · simp only [Act.put, List.setIfInBounds_toArray, List.set_cons_zero, List.set_cons_succ, i64_w, i32_w]
                        rfl
                      refine pure_ (i := 12) (N := some 112) (v := ?_) (a' := ?_) #[true, true, true, true, true, true, true, true, true, true, true, true, true, false, false, false, false, false, false, false] rfl rfl (any_of HT_.out (by kernel_rfl)) (fun _ _ _ h => h) (Or.inl ⟨by rfl, ?_⟩) ?_ ?_
                      rotate_left
                      · intro w'
                        go_simp
                        with_reducible rfl
                      rotate_left
                      · simp only [Act.put, List.setIfInBounds_toArray, List.set_cons_zero, List.set_cons_succ, i64_w, i32_w]
                        rfl
                      refine pure_ (i := 13) (N := some 113) (v := ?_) (a' := ?_) #[true, true, true, true, true, true, true, true, true, true, true, true, true, true, false, false, false, false, false, false] rfl rfl (any_of HT_.out (by kernel_rfl)) (fun _ _ _ h => h) (Or.inl ⟨by rfl, ?_⟩) ?_ ?_
                      rotate_left
                      · intro w'
                        go_simp
                        with_reducible rfl
                      rotate_left
                      · simp only [Act.put, List.setIfInBounds_toArray, List.set_cons_zero, List.set_cons_succ, i64_w, i32_w]
                        rfl
                      refine pure_ (i := 14) (N := some 114) (v := ?_) (a' := ?_) #[true, true, true, true, true, true, true, true, true, true, true, true, true, true, true, false, false, false, false, false] rfl rfl (any_of HT_.out (by kernel_rfl)) (fun _ _ _ h => h) (Or.inl ⟨by rfl, ?_⟩) ?_ ?_
                      rotate_left
                      · intro w'
                        go_simp
                        with_reducible rfl
                      rotate_left
                      · simp only [Act.put, List.setIfInBounds_toArray, List.set_cons_zero, List.set_cons_succ, i64_w, i32_w]
                        rfl
                      refine take_ (i := 15) (N := some 115) (v := ?_) (a' := ?_) #[true, true, true, true, true, true, true, true, true, true, true, true, true, true, true, true, false, false, false, false] rfl rfl (take_ofW HT_.out HW_.out (by kernel_rfl)) (fun _ _ _ h => h) (Or.inl ⟨by rfl, ?_⟩) hHeld ?_ ?_
                      rotate_left
                      · rintro w' ⟨s0, s1, s2, s3, s4, s5, s6, s7⟩
                        go_simp
                        with_reducible rfl
                      rotate_left
                      · simp only [Act.put, List.setIfInBounds_toArray, List.set_cons_zero, List.set_cons_succ, i64_w, i32_w]
                        rfl
                      refine take_ (i := 16) (N := some 116) (v := ?_) (a' := ?_) #[true, true, true, true, true, true, true, true, true, true, true, true, true, true, true, true, true, false, false, false] rfl rfl (take_ofW HT_.out HW_.out (by kernel_rfl)) (fun _ _ _ h => h) (Or.inl ⟨by rfl, ?_⟩) hHeld ?_ ?_
                      rotate_left
                      · rintro w' ⟨s0, s1, s2, s3, s4, s5, s6, s7⟩
                        go_simp
                        with_reducible rfl
                      rotate_left
                      · simp only [Act.put, List.setIfInBounds_toArray, List.set_cons_zero, List.set_cons_succ, i64_w, i32_w]
                        rfl
                      refine pure_ (i := 17) (N := some 117) (v := ?_) (a' := ?_) #[true, true, true, true, true, true, true, true, true, true, true, true, true, true, true, true, true, true, false, false] rfl rfl (any_of HT_.out (by kernel_rfl)) (fun _ _ _ h => h) (Or.inl ⟨by rfl, ?_⟩) ?_ ?_
                      rotate_left
                      · intro w'
                        go_simp
                        with_reducible rfl
                      rotate_left
                      · simp only [Act.put, List.setIfInBounds_toArray, List.set_cons_zero, List.set_cons_succ, i64_w, i32_w]
                        rfl
                      refine pure_ (i := 18) (N := some 118) (v := ?_) (a' := ?_) #[true, true, true, true, true, true, true, true, true, true, true, true, true, true, true, true, true, true, true, false] rfl rfl (any_of HT_.out (by kernel_rfl)) (fun _ _ _ h => h) (Or.inl ⟨by rfl, ?_⟩) ?_ ?_
                      rotate_left
                      · intro w'
                        go_simp
                        with_reducible rfl
                      rotate_left
                      · simp only [Act.put, List.setIfInBounds_toArray, List.set_cons_zero, List.set_cons_succ, i64_w, i32_w]
                        rfl
                      refine pure_ (i := 19) (N := some 119) (v := ?_) (a' := ?_) #[true, true, true, true, true, true, true, true, true, true, true, true, true, true, true, true, true, true, true, true] rfl rfl (any_of HT_.out (by kernel_rfl)) (fun _ _ _ h => h) (Or.inl ⟨by rfl, ?_⟩) ?_ ?_
                      rotate_left
                      · intro w'
                        go_simp
                        with_reducible rfl
                      rotate_left
                      · simp only [Act.put, List.setIfInBounds_toArray, List.set_cons_zero, List.set_cons_succ, i64_w, i32_w]
                        rfl
                      refine done_ (done_of HT_.out (by kernel_rfl)) ?_
                      try go_wp2
                      go_roundg k2
                      case measure => have := HJ7.out; have := HK2.out; omega
                      case rel => exact ⟨(wrap64 (x78_2 + 1)), (by first | rfl | (simp; done) | (simp [*]; done)), H', ⟨by have := HJ7.out; have := HK2.out; omega⟩, ⟨by (with_reducible repeat (first | apply Kd.R_alloc | apply Kd.R_drewN | apply Kd.R_drew)); exact Kd.R_mono HO_76.out (fun _ hk => hk.1)⟩, ⟨lb BK254.out⟩, ⟨by exact lB HB.out⟩⟩
                  · replace c34 := Bool.eq_false_iff.mpr c34
                    subst c34
                    have H1 : (laws_FnRootsAndCentres.l0 k2 l1 t253 t255 (t255.length : Int) (wrap64 (x78_2 + 1)) t251 t252) = some r := by rw [if_neg (show ¬ (false = true) by decide)] at H; exact H
                    clear H
                    have H := H1
                    clear H1
                    have H' := Aside0.mk H
                    clear H
                    have p264 : 0 ≤ (x78_2 : Int) := of_decide_eq_true (by first | (with_reducible assumption) | assumption)
                    have q264 : x78_2 < (t255.length : Int) := of_decide_eq_true (by first | (with_reducible assumption) | assumption)
                    obtain ⟨ad264, e264, hx264_0, hx264_1⟩ := at_T25 (Kd.R_reads' HO_76.out).2.2 x78_2 p264 q264
                    cases e264
                    replace p264 := eq_true p264
                    replace q264 := eq_true q264
                    try go_wp2_with (first | ((with_reducible refine gate_dst (N := 12) rfl ?_); (try (refine gate_guard (by rfl) ?_; dsimp only)); refine box_event ?hg (N := 12) ?hd (cs := #[.string (⟨#[]⟩ : ByteArray), .string (⟨#[]⟩ : ByteArray)]) (t := 25) ?hr ?_; (case hd => rfl); (case hg => rfl); (case hr => exact lr); intro gb265 hg w64 hbox hb; have n0_ := Aside0.mk (Kd.R_below (Kd.R_elderB (by (with_reducible repeat (first | apply Kd.R_alloc | apply Kd.R_drewN | apply Kd.R_drew)); exact HO_76.out) gb265 (Nat.le_of_eq hg.symm)) hb); have n1_ := Aside0.mk (blk_below (lb BK254.out) hb); have n2_ := Aside0.mk (below_step (lB HB.out) hb); have n3_ := Aside0.mk (hbox); have n4_ := gw hg (lB HB.out); have n5_ := gw hg (lB HB.out); have n6_ := na hg (lb BK254.out); have n7_ := nz hg (lb BK254.out); clear HO_76 BK254 HB; have HO_76 := n0_; have BK254 := n1_; have HB := n2_; have BK265 := n3_; have GW265 := n4_; have GE265 := n5_; have NB254_265 := n6_; have NB265_254 := n7_; clear n0_ n1_ n2_ n3_ n4_ n5_ n6_ n7_; clear hb hbox hg; have hnb65 := NB265_254.out; have hnc65 := NB254_265.out; have hcz66_0 : w64.cell? ⟨gb265, 0, none⟩ = some (.string (⟨#[]⟩ : ByteArray)) := (blk_cell BK265.out 0).trans rfl; have hcz66_1 : w64.cell? ⟨gb265, 1, none⟩ = some (.string (⟨#[]⟩ : ByteArray)) := (blk_cell BK265.out 1).trans rfl; have hfz66_0 := blk_frozen BK265.out 0; have hfz66_1 := blk_frozen BK265.out 1) | ((with_reducible refine gate_callee (f := 9) rfl ?_); refine goesL_ (some 85) rfl rfl Tryz.func9 (by kernel_rfl) rfl #[.agg #[.string ((rd_T25 t255 x78_2).f0), .string ((rd_T25 t255 x78_2).f1)], .int .i64 t253] rfl lm ?_; (with_reducible refine (impl_PowerPair.calls ((rd_T25 t255 x78_2).f0) ((rd_T25 t255 x78_2).f1) t253 t266 t267 true _ A27.out).mono ?_); rintro e w67 ⟨rfl, hb⟩; refine ⟨_, rfl, ?_⟩; have n0_ := Aside0.mk (Kd.R_below (by (with_reducible repeat (first | apply Kd.R_alloc | apply Kd.R_drewN | apply Kd.R_drew)); exact (Kd.R_mono (Kd.R_far (p := ⟨gb265, 1, none⟩) (Kd.R_far (p := ⟨gb265, 0, none⟩) (Kd.R_mono HO_76.out (fun k_ hk => (⟨hk, hk.2⟩ : _ ∧ k_ ≠ gb265))) (fun _ hk => hk.2) (.string ((rd_T25 t255 x78_2).f0))) (fun _ hk => hk.2) (.string ((rd_T25 t255 x78_2).f1))) (fun _ h_ => h_.1))) hb); have n1_ := Aside0.mk (blk_below (g := gb254) (o := .cells #[.string t251, .string t252] 25 (0, 0)) (by (with_reducible repeat (first | refine blk_drewN ?_ _ | refine blk_drew ?_ | refine blk_alloc ?_ _)); refine blk_far ?_ NB254_265.out _; (with_reducible repeat (first | refine blk_drewN ?_ _ | refine blk_drew ?_ | refine blk_alloc ?_ _)); refine blk_far ?_ NB254_265.out _; exact lb BK254.out) hb); have n2_ := Aside0.mk (blk_below (g := gb265) (o := .cells #[.string ((rd_T25 t255 x78_2).f0), .string ((rd_T25 t255 x78_2).f1)] 25 (0, 0)) (by (with_reducible repeat (first | refine blk_drewN ?_ _ | refine blk_drew ?_ | refine blk_alloc ?_ _)); refine blk_put (cs := #[.string ((rd_T25 t255 x78_2).f0), .string (⟨#[]⟩ : ByteArray)]) ?_ 1 _ rfl; (with_reducible repeat (first | refine blk_drewN ?_ _ | refine blk_drew ?_ | refine blk_alloc ?_ _)); refine blk_put (cs := #[.string (⟨#[]⟩ : ByteArray), .string (⟨#[]⟩ : ByteArray)]) ?_ 0 _ rfl; exact lb BK265.out) hb); have n3_ := Aside0.mk (below_step (lB HB.out) hb); clear HO_76 BK254 BK265 HB; have HO_76 := n0_; have BK254 := n1_; have BK265 := n2_; have HB := n3_; clear n0_ n1_ n2_ n3_; (try clear hb); (try clear hb2); (try clear hk); (try clear hi)) | ((with_reducible refine gate_dst (N := 13) rfl ?_); (try (refine gate_guard (by rfl) ?_; dsimp only)); refine box_event ?hg (N := 13) ?hd (cs := #[.string (⟨#[]⟩ : ByteArray), .string (⟨#[]⟩ : ByteArray)]) (t := 25) ?hr ?_; (case hd => rfl); (case hg => rfl); (case hr => exact lr); intro gb269 hg w68 hbox hb; have n0_ := Aside0.mk (Kd.R_below (Kd.R_elderB (by (with_reducible repeat (first | apply Kd.R_alloc | apply Kd.R_drewN | apply Kd.R_drew)); exact HO_76.out) gb269 (Nat.le_of_eq hg.symm)) hb); have n1_ := Aside0.mk (blk_below (lb BK254.out) hb); have n2_ := Aside0.mk (blk_below (lb BK265.out) hb); have n3_ := Aside0.mk (below_step (lB HB.out) hb); have n4_ := Aside0.mk (hbox); have n5_ := gw hg (lB HB.out); have n6_ := gw hg (lB HB.out); have n7_ := na hg (lb BK254.out); have n8_ := nz hg (lb BK254.out); have n9_ := na hg (lb BK265.out); have n10_ := nz hg (lb BK265.out); clear HO_76 BK254 BK265 HB; have HO_76 := n0_; have BK254 := n1_; have BK265 := n2_; have HB := n3_; have BK269 := n4_; have GW269 := n5_; have GE269 := n6_; have NB254_269 := n7_; have NB269_254 := n8_; have NB265_269 := n9_; have NB269_265 := n10_; clear n0_ n1_ n2_ n3_ n4_ n5_ n6_ n7_ n8_ n9_ n10_; clear hb hbox hg; have hnb69 := NB269_254.out; have hnc69 := NB254_269.out; have hnb70 := NB269_265.out; have hnc70 := NB265_269.out; have hcz71_0 : w68.cell? ⟨gb269, 0, none⟩ = some (.string (⟨#[]⟩ : ByteArray)) := (blk_cell BK269.out 0).trans rfl; have hcz71_1 : w68.cell? ⟨gb269, 1, none⟩ = some (.string (⟨#[]⟩ : ByteArray)) := (blk_cell BK269.out 1).trans rfl; have hfz71_0 := blk_frozen BK269.out 0; have hfz71_1 := blk_frozen BK269.out 1; have hcz72_0 : w68.cell? ⟨gb254, 0, none⟩ = some (.string t251) := (blk_cell BK254.out 0).trans rfl; have hcz72_1 : w68.cell? ⟨gb254, 1, none⟩ = some (.string t252) := (blk_cell BK254.out 1).trans rfl; have hfz72_0 := blk_frozen BK254.out 0; have hfz72_1 := blk_frozen BK254.out 1; have hcz73_0 : w68.cell? ⟨gb265, 0, none⟩ = some (.string ((rd_T25 t255 x78_2).f0)) := (blk_cell BK265.out 0).trans rfl; have hcz73_1 : w68.cell? ⟨gb265, 1, none⟩ = some (.string ((rd_T25 t255 x78_2).f1)) := (blk_cell BK265.out 1).trans rfl; have hfz73_0 := blk_frozen BK265.out 0; have hfz73_1 := blk_frozen BK265.out 1) | ((with_reducible refine gate_callee (f := 10) rfl ?_); refine goesL_ (some 91) rfl rfl Tryz.func10 (by kernel_rfl) rfl #[.agg #[.string t251, .string t252], .agg #[.string ((rd_T25 t255 x78_2).f0), .string ((rd_T25 t255 x78_2).f1)]] rfl lm ?_; (with_reducible refine (impl_ProductPair.calls t251 t252 ((rd_T25 t255 x78_2).f0) ((rd_T25 t255 x78_2).f1) t270 t271 false _ A28.out).mono ?_); rintro e w74 ⟨rfl, hb⟩; refine ⟨_, rfl, ?_⟩; have n0_ := Aside0.mk (Kd.R_below (by (with_reducible repeat (first | apply Kd.R_alloc | apply Kd.R_drewN | apply Kd.R_drew)); exact (Kd.R_mono (Kd.R_far (p := ⟨gb269, 1, none⟩) (Kd.R_far (p := ⟨gb269, 0, none⟩) (Kd.R_mono HO_76.out (fun k_ hk => (⟨hk, hk.2⟩ : _ ∧ k_ ≠ gb269))) (fun _ hk => hk.2) (.string t266)) (fun _ hk => hk.2) (.string t267)) (fun _ h_ => h_.1))) hb); have n1_ := Aside0.mk (blk_below (g := gb254) (o := .cells #[.string t251, .string t252] 25 (0, 0)) (by (with_reducible repeat (first | refine blk_drewN ?_ _ | refine blk_drew ?_ | refine blk_alloc ?_ _)); refine blk_far ?_ NB254_269.out _; (with_reducible repeat (first | refine blk_drewN ?_ _ | refine blk_drew ?_ | refine blk_alloc ?_ _)); refine blk_far ?_ NB254_269.out _; exact lb BK254.out) hb); have n2_ := Aside0.mk (blk_below (g := gb265) (o := .cells #[.string ((rd_T25 t255 x78_2).f0), .string ((rd_T25 t255 x78_2).f1)] 25 (0, 0)) (by (with_reducible repeat (first | refine blk_drewN ?_ _ | refine blk_drew ?_ | refine blk_alloc ?_ _)); refine blk_far ?_ NB265_269.out _; (with_reducible repeat (first | refine blk_drewN ?_ _ | refine blk_drew ?_ | refine blk_alloc ?_ _)); refine blk_far ?_ NB265_269.out _; exact lb BK265.out) hb); have n3_ := Aside0.mk (blk_below (g := gb269) (o := .cells #[.string t266, .string t267] 25 (0, 0)) (by (with_reducible repeat (first | refine blk_drewN ?_ _ | refine blk_drew ?_ | refine blk_alloc ?_ _)); refine blk_put (cs := #[.string t266, .string (⟨#[]⟩ : ByteArray)]) ?_ 1 _ rfl; (with_reducible repeat (first | refine blk_drewN ?_ _ | refine blk_drew ?_ | refine blk_alloc ?_ _)); refine blk_put (cs := #[.string (⟨#[]⟩ : ByteArray), .string (⟨#[]⟩ : ByteArray)]) ?_ 0 _ rfl; exact lb BK269.out) hb); have n4_ := Aside0.mk (below_step (lB HB.out) hb); clear HO_76 BK254 BK265 BK269 HB; have HO_76 := n0_; have BK254 := n1_; have BK265 := n2_; have BK269 := n3_; have HB := n4_; clear n0_ n1_ n2_ n3_ n4_; (try clear hb); (try clear hb2); (try clear hk); (try clear hi)) | ((with_reducible refine gate_dst (N := 15) rfl ?_); (try (refine gate_guard (by rfl) ?_; dsimp only)); refine box_event ?hg (N := 15) ?hd (cs := #[.string (⟨#[]⟩ : ByteArray), .string (⟨#[]⟩ : ByteArray)]) (t := 25) ?hr ?_; (case hd => rfl); (case hg => rfl); (case hr => exact lr); intro gb273 hg w75 hbox hb; have n0_ := Aside0.mk (Kd.R_below (Kd.R_elderB (by (with_reducible repeat (first | apply Kd.R_alloc | apply Kd.R_drewN | apply Kd.R_drew)); exact HO_76.out) gb273 (Nat.le_of_eq hg.symm)) hb); have n1_ := Aside0.mk (blk_below (lb BK254.out) hb); have n2_ := Aside0.mk (blk_below (lb BK265.out) hb); have n3_ := Aside0.mk (blk_below (lb BK269.out) hb); have n4_ := Aside0.mk (below_step (lB HB.out) hb); have n5_ := Aside0.mk (hbox); have n6_ := gw hg (lB HB.out); have n7_ := gw hg (lB HB.out); have n8_ := na hg (lb BK254.out); have n9_ := nz hg (lb BK254.out); have n10_ := na hg (lb BK265.out); have n11_ := nz hg (lb BK265.out); have n12_ := na hg (lb BK269.out); have n13_ := nz hg (lb BK269.out); clear HO_76 BK254 BK265 BK269 HB; have HO_76 := n0_; have BK254 := n1_; have BK265 := n2_; have BK269 := n3_; have HB := n4_; have BK273 := n5_; have GW273 := n6_; have GE273 := n7_; have NB254_273 := n8_; have NB273_254 := n9_; have NB265_273 := n10_; have NB273_265 := n11_; have NB269_273 := n12_; have NB273_269 := n13_; clear n0_ n1_ n2_ n3_ n4_ n5_ n6_ n7_ n8_ n9_ n10_ n11_ n12_ n13_; clear hb hbox hg; have hnb76 := NB273_254.out; have hnc76 := NB254_273.out; have hnb77 := NB273_265.out; have hnc77 := NB265_273.out; have hnb78 := NB273_269.out; have hnc78 := NB269_273.out; have hcz79_0 : w75.cell? ⟨gb273, 0, none⟩ = some (.string (⟨#[]⟩ : ByteArray)) := (blk_cell BK273.out 0).trans rfl; have hcz79_1 : w75.cell? ⟨gb273, 1, none⟩ = some (.string (⟨#[]⟩ : ByteArray)) := (blk_cell BK273.out 1).trans rfl; have hfz79_0 := blk_frozen BK273.out 0; have hfz79_1 := blk_frozen BK273.out 1; have hcz80_0 : w75.cell? ⟨gb265, 0, none⟩ = some (.string ((rd_T25 t255 x78_2).f0)) := (blk_cell BK265.out 0).trans rfl; have hcz80_1 : w75.cell? ⟨gb265, 1, none⟩ = some (.string ((rd_T25 t255 x78_2).f1)) := (blk_cell BK265.out 1).trans rfl; have hfz80_0 := blk_frozen BK265.out 0; have hfz80_1 := blk_frozen BK265.out 1; have hcz81_0 : w75.cell? ⟨gb254, 0, none⟩ = some (.string t251) := (blk_cell BK254.out 0).trans rfl; have hcz81_1 : w75.cell? ⟨gb254, 1, none⟩ = some (.string t252) := (blk_cell BK254.out 1).trans rfl; have hfz81_0 := blk_frozen BK254.out 0; have hfz81_1 := blk_frozen BK254.out 1) | ((with_reducible refine gate_callee (f := 10) rfl ?_); refine goesL_ (some 97) rfl rfl Tryz.func10 (by kernel_rfl) rfl #[.agg #[.string ((rd_T25 t255 x78_2).f0), .string ((rd_T25 t255 x78_2).f1)], .agg #[.string t251, .string t252]] rfl lm ?_; (with_reducible refine (impl_ProductPair.calls ((rd_T25 t255 x78_2).f0) ((rd_T25 t255 x78_2).f1) t251 t252 t274 t275 t276 _ A29.out).mono ?_); rintro e w82 ⟨rfl, hb⟩; refine ⟨_, rfl, ?_⟩; have n0_ := Aside0.mk (Kd.R_below (by (with_reducible repeat (first | apply Kd.R_alloc | apply Kd.R_drewN | apply Kd.R_drew)); exact (Kd.R_mono (Kd.R_far (p := ⟨gb273, 1, none⟩) (Kd.R_far (p := ⟨gb273, 0, none⟩) (Kd.R_mono HO_76.out (fun k_ hk => (⟨hk, hk.2⟩ : _ ∧ k_ ≠ gb273))) (fun _ hk => hk.2) (.string t270)) (fun _ hk => hk.2) (.string t271)) (fun _ h_ => h_.1))) hb); have n1_ := Aside0.mk (blk_below (g := gb254) (o := .cells #[.string t251, .string t252] 25 (0, 0)) (by (with_reducible repeat (first | refine blk_drewN ?_ _ | refine blk_drew ?_ | refine blk_alloc ?_ _)); refine blk_far ?_ NB254_273.out _; (with_reducible repeat (first | refine blk_drewN ?_ _ | refine blk_drew ?_ | refine blk_alloc ?_ _)); refine blk_far ?_ NB254_273.out _; exact lb BK254.out) hb); have n2_ := Aside0.mk (blk_below (g := gb265) (o := .cells #[.string ((rd_T25 t255 x78_2).f0), .string ((rd_T25 t255 x78_2).f1)] 25 (0, 0)) (by (with_reducible repeat (first | refine blk_drewN ?_ _ | refine blk_drew ?_ | refine blk_alloc ?_ _)); refine blk_far ?_ NB265_273.out _; (with_reducible repeat (first | refine blk_drewN ?_ _ | refine blk_drew ?_ | refine blk_alloc ?_ _)); refine blk_far ?_ NB265_273.out _; exact lb BK265.out) hb); have n3_ := Aside0.mk (blk_below (g := gb269) (o := .cells #[.string t266, .string t267] 25 (0, 0)) (by (with_reducible repeat (first | refine blk_drewN ?_ _ | refine blk_drew ?_ | refine blk_alloc ?_ _)); refine blk_far ?_ NB269_273.out _; (with_reducible repeat (first | refine blk_drewN ?_ _ | refine blk_drew ?_ | refine blk_alloc ?_ _)); refine blk_far ?_ NB269_273.out _; exact lb BK269.out) hb); have n4_ := Aside0.mk (blk_below (g := gb273) (o := .cells #[.string t270, .string t271] 25 (0, 0)) (by (with_reducible repeat (first | refine blk_drewN ?_ _ | refine blk_drew ?_ | refine blk_alloc ?_ _)); refine blk_put (cs := #[.string t270, .string (⟨#[]⟩ : ByteArray)]) ?_ 1 _ rfl; (with_reducible repeat (first | refine blk_drewN ?_ _ | refine blk_drew ?_ | refine blk_alloc ?_ _)); refine blk_put (cs := #[.string (⟨#[]⟩ : ByteArray), .string (⟨#[]⟩ : ByteArray)]) ?_ 0 _ rfl; exact lb BK273.out) hb); have n5_ := Aside0.mk (below_step (lB HB.out) hb); clear HO_76 BK254 BK265 BK269 BK273 HB; have HO_76 := n0_; have BK254 := n1_; have BK265 := n2_; have BK269 := n3_; have BK273 := n4_; have HB := n5_; clear n0_ n1_ n2_ n3_ n4_ n5_; (try clear hb); (try clear hb2); (try clear hk); (try clear hi)) | ((with_reducible refine gate_dst (N := 17) rfl ?_); (try (refine gate_guard (by rfl) ?_; dsimp only)); refine box_event ?hg (N := 17) ?hd (cs := #[.string (⟨#[]⟩ : ByteArray), .string (⟨#[]⟩ : ByteArray)]) (t := 25) ?hr ?_; (case hd => rfl); (case hg => rfl); (case hr => exact lr); intro gb277 hg w83 hbox hb; have n0_ := Aside0.mk (Kd.R_below (Kd.R_elderB (by (with_reducible repeat (first | apply Kd.R_alloc | apply Kd.R_drewN | apply Kd.R_drew)); exact HO_76.out) gb277 (Nat.le_of_eq hg.symm)) hb); have n1_ := Aside0.mk (blk_below (lb BK254.out) hb); have n2_ := Aside0.mk (blk_below (lb BK265.out) hb); have n3_ := Aside0.mk (blk_below (lb BK269.out) hb); have n4_ := Aside0.mk (blk_below (lb BK273.out) hb); have n5_ := Aside0.mk (below_step (lB HB.out) hb); have n6_ := Aside0.mk (hbox); have n7_ := gw hg (lB HB.out); have n8_ := gw hg (lB HB.out); have n9_ := na hg (lb BK254.out); have n10_ := nz hg (lb BK254.out); have n11_ := na hg (lb BK265.out); have n12_ := nz hg (lb BK265.out); have n13_ := na hg (lb BK269.out); have n14_ := nz hg (lb BK269.out); have n15_ := na hg (lb BK273.out); have n16_ := nz hg (lb BK273.out); clear HO_76 BK254 BK265 BK269 BK273 HB; have HO_76 := n0_; have BK254 := n1_; have BK265 := n2_; have BK269 := n3_; have BK273 := n4_; have HB := n5_; have BK277 := n6_; have GW277 := n7_; have GE277 := n8_; have NB254_277 := n9_; have NB277_254 := n10_; have NB265_277 := n11_; have NB277_265 := n12_; have NB269_277 := n13_; have NB277_269 := n14_; have NB273_277 := n15_; have NB277_273 := n16_; clear n0_ n1_ n2_ n3_ n4_ n5_ n6_ n7_ n8_ n9_ n10_ n11_ n12_ n13_ n14_ n15_ n16_; clear hb hbox hg; have hnb84 := NB277_254.out; have hnc84 := NB254_277.out; have hnb85 := NB277_265.out; have hnc85 := NB265_277.out; have hnb86 := NB277_269.out; have hnc86 := NB269_277.out; have hnb87 := NB277_273.out; have hnc87 := NB273_277.out; have hcz88_0 : w83.cell? ⟨gb277, 0, none⟩ = some (.string (⟨#[]⟩ : ByteArray)) := (blk_cell BK277.out 0).trans rfl; have hcz88_1 : w83.cell? ⟨gb277, 1, none⟩ = some (.string (⟨#[]⟩ : ByteArray)) := (blk_cell BK277.out 1).trans rfl; have hfz88_0 := blk_frozen BK277.out 0; have hfz88_1 := blk_frozen BK277.out 1))
                    have n0_ : Aside0 (Kd.R k25 25 ((w83.setCell ⟨gb277, 0, none⟩ (.string t274)).setCell ⟨gb277, 1, none⟩ (.string t275)) w.heap.size (fun k_ => k_ ≠ gb254 ∧ k_ ≠ gb265 ∧ k_ ≠ gb269 ∧ k_ ≠ gb273 ∧ k_ ≠ gb277) (.slice (some ad264) t255.length co23) t255) := ⟨by (with_reducible repeat (first | apply Kd.R_alloc | apply Kd.R_drewN | apply Kd.R_drew)); exact Kd.R_mono (Kd.R_far (p := ⟨gb277, 1, none⟩) (Kd.R_far (p := ⟨gb277, 0, none⟩) (Kd.R_mono HO_76.out (fun k_ hk => (⟨hk, hk.2⟩ : _ ∧ k_ ≠ gb277))) (fun _ hk => hk.2) (.string t274)) (fun _ hk => hk.2) (.string t275)) (fun _ hk => ⟨hk.1.1.1.1.1, ⟨hk.1.1.1.1.2, ⟨hk.1.1.1.2, ⟨hk.1.1.2, hk.1.2⟩⟩⟩⟩)⟩
                    have n1_ : Aside0 (((w83.setCell ⟨gb277, 0, none⟩ (.string t274)).setCell ⟨gb277, 1, none⟩ (.string t275)).heap[gb254]? = some (.cells #[.string t251, .string t252] 25 (0, 0))) := ⟨by (with_reducible repeat (first | refine blk_drewN ?_ _ | refine blk_drew ?_ | refine blk_alloc ?_ _)); refine blk_far ?_ NB254_277.out _; (with_reducible repeat (first | refine blk_drewN ?_ _ | refine blk_drew ?_ | refine blk_alloc ?_ _)); refine blk_far ?_ NB254_277.out _; exact lb BK254.out⟩
                    have n2_ : Aside0 (((w83.setCell ⟨gb277, 0, none⟩ (.string t274)).setCell ⟨gb277, 1, none⟩ (.string t275)).heap[gb265]? = some (.cells #[.string ((rd_T25 t255 x78_2).f0), .string ((rd_T25 t255 x78_2).f1)] 25 (0, 0))) := ⟨by (with_reducible repeat (first | refine blk_drewN ?_ _ | refine blk_drew ?_ | refine blk_alloc ?_ _)); refine blk_far ?_ NB265_277.out _; (with_reducible repeat (first | refine blk_drewN ?_ _ | refine blk_drew ?_ | refine blk_alloc ?_ _)); refine blk_far ?_ NB265_277.out _; exact lb BK265.out⟩
                    have n3_ : Aside0 (((w83.setCell ⟨gb277, 0, none⟩ (.string t274)).setCell ⟨gb277, 1, none⟩ (.string t275)).heap[gb269]? = some (.cells #[.string t266, .string t267] 25 (0, 0))) := ⟨by (with_reducible repeat (first | refine blk_drewN ?_ _ | refine blk_drew ?_ | refine blk_alloc ?_ _)); refine blk_far ?_ NB269_277.out _; (with_reducible repeat (first | refine blk_drewN ?_ _ | refine blk_drew ?_ | refine blk_alloc ?_ _)); refine blk_far ?_ NB269_277.out _; exact lb BK269.out⟩
                    have n4_ : Aside0 (((w83.setCell ⟨gb277, 0, none⟩ (.string t274)).setCell ⟨gb277, 1, none⟩ (.string t275)).heap[gb273]? = some (.cells #[.string t270, .string t271] 25 (0, 0))) := ⟨by (with_reducible repeat (first | refine blk_drewN ?_ _ | refine blk_drew ?_ | refine blk_alloc ?_ _)); refine blk_far ?_ NB273_277.out _; (with_reducible repeat (first | refine blk_drewN ?_ _ | refine blk_drew ?_ | refine blk_alloc ?_ _)); refine blk_far ?_ NB273_277.out _; exact lb BK273.out⟩
                    have n5_ : Aside0 (((w83.setCell ⟨gb277, 0, none⟩ (.string t274)).setCell ⟨gb277, 1, none⟩ (.string t275)).heap[gb277]? = some (.cells #[.string t274, .string t275] 25 (0, 0))) := ⟨by (with_reducible repeat (first | refine blk_drewN ?_ _ | refine blk_drew ?_ | refine blk_alloc ?_ _)); refine blk_put (cs := #[.string t274, .string (⟨#[]⟩ : ByteArray)]) ?_ 1 _ rfl; (with_reducible repeat (first | refine blk_drewN ?_ _ | refine blk_drew ?_ | refine blk_alloc ?_ _)); refine blk_put (cs := #[.string (⟨#[]⟩ : ByteArray), .string (⟨#[]⟩ : ByteArray)]) ?_ 0 _ rfl; exact lb BK277.out⟩
                    have n6_ : Aside0 (Below w.heap.size w ((w83.setCell ⟨gb277, 0, none⟩ (.string t274)).setCell ⟨gb277, 1, none⟩ (.string t275))) := ⟨by exact lB HB.out⟩
                    (try clear HO_76)
                    (try clear BK254)
                    (try clear BK265)
                    (try clear BK269)
                    (try clear BK273)
                    (try clear BK277)
                    (try clear HB)
                    generalize ((w83.setCell ⟨gb277, 0, none⟩ (.string t274)).setCell ⟨gb277, 1, none⟩ (.string t275)) = w89 at n0_ n1_ n2_ n3_ n4_ n5_ n6_ ⊢
                    have HO_76 := n0_
                    have BK254 := n1_
                    have BK265 := n2_
                    have BK269 := n3_
                    have BK273 := n4_
                    have BK277 := n5_
                    have HB := n6_
                    clear n0_ n1_ n2_ n3_ n4_ n5_ n6_
                    have n0_ := Aside0.mk (Kd.R_drew HO_76.out)
                    have n1_ := Aside0.mk (blk_drew BK254.out)
                    have n2_ := Aside0.mk (blk_drew BK265.out)
                    have n3_ := Aside0.mk (blk_drew BK269.out)
                    have n4_ := Aside0.mk (blk_drew BK273.out)
                    have n5_ := Aside0.mk (blk_drew BK277.out)
                    have n6_ := Aside0.mk (below_drew1 HB.out)
                    clear HO_76
                    clear BK254
                    clear BK265
                    clear BK269
                    clear BK273
                    clear BK277
                    clear HB
                    have HO_76 := n0_
                    have BK254 := n1_
                    have BK265 := n2_
                    have BK269 := n3_
                    have BK273 := n4_
                    have BK277 := n5_
                    have HB := n6_
                    clear n0_ n1_ n2_ n3_ n4_ n5_ n6_
                    refine start_ (n := 20) (S := fun w' => w'.cell? ⟨gb269, 0, none⟩ = some (.string t266) ∧ w'.cell? ⟨gb269, 1, none⟩ = some (.string t267) ∧ w'.cell? ⟨gb254, 0, none⟩ = some (.string t251) ∧ w'.cell? ⟨gb254, 1, none⟩ = some (.string t252)) (ds := []) #[false, false, false, false, false, false, false, false, false, false, false, false, false, false, false, false, false, false, false, false] (by kernel_rfl) rfl rfl ⟨(blk_cell BK269.out 0).trans rfl, (blk_cell BK269.out 1).trans rfl, (blk_cell BK254.out 0).trans rfl, (blk_cell BK254.out 1).trans rfl⟩ (fun hHeld => ?_); refine with_tabW laws_FnRootsAndCentres.tab14 laws_FnRootsAndCentres.bits14 (fun HT_ HW_ => ?_)
                    generalize w89.drew = w90 at HO_76 BK254 BK265 BK269 BK273 BK277 HB hHeld ⊢
                    refine pure_ (i := 0) (N := some 100) (v := ?_) (a' := ?_) #[true, false, false, false, false, false, false, false, false, false, false, false, false, false, false, false, false, false, false, false] rfl rfl (any_of HT_.out (by kernel_rfl)) (fun _ _ _ h => h) (Or.inl ⟨by rfl, ?_⟩) ?_ ?_
                    rotate_left
                    · intro w'
                      go_simp
                      with_reducible rfl
                    rotate_left
                    · simp only [Act.put, List.setIfInBounds_toArray, List.set_cons_zero, List.set_cons_succ, i64_w, i32_w]
                      rfl
                    refine pure_ (i := 1) (N := some 101) (v := ?_) (a' := ?_) #[true, true, false, false, false, false, false, false, false, false, false, false, false, false, false, false, false, false, false, false] rfl rfl (any_of HT_.out (by kernel_rfl)) (fun _ _ _ h => h) (Or.inl ⟨by rfl, ?_⟩) ?_ ?_
                    rotate_left
                    · intro w'
                      go_simp
                      with_reducible rfl
                    rotate_left
                    · simp only [Act.put, List.setIfInBounds_toArray, List.set_cons_zero, List.set_cons_succ, i64_w, i32_w]
                      rfl
                    refine take_ (i := 2) (N := some 102) (v := ?_) (a' := ?_) #[true, true, true, false, false, false, false, false, false, false, false, false, false, false, false, false, false, false, false, false] rfl rfl (take_ofW HT_.out HW_.out (by kernel_rfl)) (fun _ _ _ h => h) (Or.inl ⟨by rfl, ?_⟩) hHeld ?_ ?_
                    rotate_left
                    · rintro w' ⟨s0, s1, s2, s3⟩
                      go_simp
                      with_reducible rfl
                    rotate_left
                    · simp only [Act.put, List.setIfInBounds_toArray, List.set_cons_zero, List.set_cons_succ, i64_w, i32_w]
                      rfl
                    refine take_ (i := 3) (N := some 103) (v := ?_) (a' := ?_) #[true, true, true, true, false, false, false, false, false, false, false, false, false, false, false, false, false, false, false, false] rfl rfl (take_ofW HT_.out HW_.out (by kernel_rfl)) (fun _ _ _ h => h) (Or.inl ⟨by rfl, ?_⟩) hHeld ?_ ?_
                    rotate_left
                    · rintro w' ⟨s0, s1, s2, s3⟩
                      go_simp
                      with_reducible rfl
                    rotate_left
                    · simp only [Act.put, List.setIfInBounds_toArray, List.set_cons_zero, List.set_cons_succ, i64_w, i32_w]
                      rfl
                    refine one_ (i := 4) (N := some 104) #[true, true, true, true, true, false, false, false, false, false, false, false, false, false, false, false, false, false, false, false] rfl rfl (one_of HT_.out (by kernel_rfl)) (by decide) (fun K hK => ?_)
                    refine goes_ Tryz.func11 (by kernel_rfl) rfl #[.agg #[.string t251, .string t252]] (by rfl) rfl rfl lm ?_
                    with_reducible refine (laws_nReduced.calls t251 t252 t278 t279 _ A31.out).mono ?_
                    rintro e w91 ⟨rfl, hb⟩
                    refine ⟨_, rfl, ?_⟩
                    have n0_ := Aside0.mk (Kd.R_below (by (with_reducible repeat (first | apply Kd.R_alloc | apply Kd.R_drewN | apply Kd.R_drew)); exact HO_76.out) hb)
                    have n1_ := Aside0.mk (blk_below (lb BK254.out) hb)
                    have n2_ := Aside0.mk (blk_below (lb BK265.out) hb)
                    have n3_ := Aside0.mk (blk_below (lb BK269.out) hb)
                    have n4_ := Aside0.mk (blk_below (lb BK273.out) hb)
                    have n5_ := Aside0.mk (blk_below (lb BK277.out) hb)
                    have n6_ := Aside0.mk (below_step (lB HB.out) hb)
                    clear HO_76
                    clear BK254
                    clear BK265
                    clear BK269
                    clear BK273
                    clear BK277
                    clear HB
                    have HO_76 := n0_
                    have BK254 := n1_
                    have BK265 := n2_
                    have BK269 := n3_
                    have BK273 := n4_
                    have BK277 := n5_
                    have HB := n6_
                    clear n0_ n1_ n2_ n3_ n4_ n5_ n6_
                    (try clear hb)
                    (try clear hb2)
                    (try clear hk)
                    (try clear hi)
                    refine hK.out _ _ ⟨(blk_cell BK269.out 0).trans rfl, (blk_cell BK269.out 1).trans rfl, (blk_cell BK254.out 0).trans rfl, (blk_cell BK254.out 1).trans rfl⟩ (fun hHeld => ?_)
                    clear hK K
                    refine norm_ (a' := ?_) ?_ ?_
                    rotate_left
                    · show Act.put _ (some 104) _ = _
                      simp only [Act.put, List.setIfInBounds_toArray, List.set_cons_zero, List.set_cons_succ, i64_w, i32_w]
                      rfl
                    refine pure_ (i := 5) (N := some 105) (v := ?_) (a' := ?_) #[true, true, true, true, true, true, false, false, false, false, false, false, false, false, false, false, false, false, false, false] rfl rfl (any_of HT_.out (by kernel_rfl)) (fun _ _ _ h => h) (Or.inl ⟨by rfl, ?_⟩) ?_ ?_
                    rotate_left
                    · intro w'
                      go_simp
                      with_reducible rfl
                    rotate_left
                    · simp only [Act.put, List.setIfInBounds_toArray, List.set_cons_zero, List.set_cons_succ, i64_w, i32_w]
                      rfl
                    refine pure_ (i := 6) (N := some 106) (v := ?_) (a' := ?_) #[true, true, true, true, true, true, true, false, false, false, false, false, false, false, false, false, false, false, false, false] rfl rfl (any_of HT_.out (by kernel_rfl)) (fun _ _ _ h => h) (Or.inl ⟨by rfl, ?_⟩) ?_ ?_
                    rotate_left
                    · intro w'
                      go_simp
                      with_reducible rfl
                    rotate_left
                    · simp only [Act.put, List.setIfInBounds_toArray, List.set_cons_zero, List.set_cons_succ, i64_w, i32_w]
                      rfl
                    refine pure_ (i := 7) (N := some 107) (v := ?_) (a' := ?_) #[true, true, true, true, true, true, true, true, false, false, false, false, false, false, false, false, false, false, false, false] rfl rfl (any_of HT_.out (by kernel_rfl)) (fun _ _ _ h => h) (Or.inl ⟨by rfl, ?_⟩) ?_ ?_
                    rotate_left
                    · intro w'
                      go_simp
                      with_reducible rfl
                    rotate_left
                    · simp only [Act.put, List.setIfInBounds_toArray, List.set_cons_zero, List.set_cons_succ, i64_w, i32_w]
                      rfl
                    refine pure_ (i := 8) (N := some 108) (v := ?_) (a' := ?_) #[true, true, true, true, true, true, true, true, true, false, false, false, false, false, false, false, false, false, false, false] rfl rfl (any_of HT_.out (by kernel_rfl)) (fun _ _ _ h => h) (Or.inl ⟨by rfl, ?_⟩) ?_ ?_
                    rotate_left
                    · intro w'
                      go_simp
                      with_reducible rfl
                    rotate_left
                    · simp only [Act.put, List.setIfInBounds_toArray, List.set_cons_zero, List.set_cons_succ, i64_w, i32_w]
                      rfl
                    refine pure_ (i := 9) (N := some 109) (v := ?_) (a' := ?_) #[true, true, true, true, true, true, true, true, true, true, false, false, false, false, false, false, false, false, false, false] rfl rfl (any_of HT_.out (by kernel_rfl)) (fun _ _ _ h => h) (Or.inl ⟨by rfl, ?_⟩) ?_ ?_
                    rotate_left
                    · intro w'
                      go_simp
                      with_reducible rfl
                    rotate_left
                    · simp only [Act.put, List.setIfInBounds_toArray, List.set_cons_zero, List.set_cons_succ, i64_w, i32_w]
                      rfl
                    refine pure_ (i := 10) (N := some 110) (v := ?_) (a' := ?_) #[true, true, true, true, true, true, true, true, true, true, true, false, false, false, false, false, false, false, false, false] rfl rfl (any_of HT_.out (by kernel_rfl)) (fun _ _ _ h => h) (Or.inl ⟨by rfl, ?_⟩) ?_ ?_
                    rotate_left
                    · intro w'
                      go_simp
                      with_reducible rfl
                    rotate_left
                    · simp only [Act.put, List.setIfInBounds_toArray, List.set_cons_zero, List.set_cons_succ, i64_w, i32_w]
                      rfl
                    refine pure_ (i := 11) (N := some 111) (v := ?_) (a' := ?_) #[true, true, true, true, true, true, true, true, true, true, true, true, false, false, false, false, false, false, false, false] rfl rfl (any_of HT_.out (by kernel_rfl)) (fun _ _ _ h => h) (Or.inl ⟨by rfl, ?_⟩) ?_ ?_
                    rotate_left
                    · intro w'
                      go_simp
                      with_reducible rfl
                    rotate_left
                    · simp only [Act.put, List.setIfInBounds_toArray, List.set_cons_zero, List.set_cons_succ, i64_w, i32_w]
                      rfl
                    refine pure_ (i := 12) (N := some 112) (v := ?_) (a' := ?_) #[true, true, true, true, true, true, true, true, true, true, true, true, true, false, false, false, false, false, false, false] rfl rfl (any_of HT_.out (by kernel_rfl)) (fun _ _ _ h => h) (Or.inl ⟨by rfl, ?_⟩) ?_ ?_
                    rotate_left
                    · intro w'
                      go_simp
                      with_reducible rfl
                    rotate_left
                    · simp only [Act.put, List.setIfInBounds_toArray, List.set_cons_zero, List.set_cons_succ, i64_w, i32_w]
                      rfl
                    refine pure_ (i := 13) (N := some 113) (v := ?_) (a' := ?_) #[true, true, true, true, true, true, true, true, true, true, true, true, true, true, false, false, false, false, false, false] rfl rfl (any_of HT_.out (by kernel_rfl)) (fun _ _ _ h => h) (Or.inl ⟨by rfl, ?_⟩) ?_ ?_
                    rotate_left
                    · intro w'
                      go_simp
                      with_reducible rfl
                    rotate_left
                    · simp only [Act.put, List.setIfInBounds_toArray, List.set_cons_zero, List.set_cons_succ, i64_w, i32_w]
                      rfl
                    refine pure_ (i := 14) (N := some 114) (v := ?_) (a' := ?_) #[true, true, true, true, true, true, true, true, true, true, true, true, true, true, true, false, false, false, false, false] rfl rfl (any_of HT_.out (by kernel_rfl)) (fun _ _ _ h => h) (Or.inl ⟨by rfl, ?_⟩) ?_ ?_
                    rotate_left
                    · intro w'
                      go_simp
                      with_reducible rfl
                    rotate_left
                    · simp only [Act.put, List.setIfInBounds_toArray, List.set_cons_zero, List.set_cons_succ, i64_w, i32_w]
                      rfl
                    refine pure_ (i := 15) (N := some 115) (v := undef) (a' := ?_) #[true, true, true, true, true, true, true, true, true, true, true, true, true, true, true, true, false, false, false, false] rfl rfl (any_of HT_.out (by kernel_rfl)) (fun _ _ _ h => h) (Or.inr ⟨by rfl, rfl⟩) ?_ ?_
                    rotate_left
                    · simp only [Act.put, List.setIfInBounds_toArray, List.set_cons_zero, List.set_cons_succ, i64_w, i32_w]
                      rfl
                    refine pure_ (i := 16) (N := some 116) (v := undef) (a' := ?_) #[true, true, true, true, true, true, true, true, true, true, true, true, true, true, true, true, true, false, false, false] rfl rfl (any_of HT_.out (by kernel_rfl)) (fun _ _ _ h => h) (Or.inr ⟨by rfl, rfl⟩) ?_ ?_
                    rotate_left
                    · simp only [Act.put, List.setIfInBounds_toArray, List.set_cons_zero, List.set_cons_succ, i64_w, i32_w]
                      rfl
                    refine pure_ (i := 17) (N := some 117) (v := undef) (a' := ?_) #[true, true, true, true, true, true, true, true, true, true, true, true, true, true, true, true, true, true, false, false] rfl rfl (any_of HT_.out (by kernel_rfl)) (fun _ _ _ h => h) (Or.inr ⟨by rfl, rfl⟩) ?_ ?_
                    rotate_left
                    · simp only [Act.put, List.setIfInBounds_toArray, List.set_cons_zero, List.set_cons_succ, i64_w, i32_w]
                      rfl
                    refine pure_ (i := 18) (N := some 118) (v := ?_) (a' := ?_) #[true, true, true, true, true, true, true, true, true, true, true, true, true, true, true, true, true, true, true, false] rfl rfl (any_of HT_.out (by kernel_rfl)) (fun _ _ _ h => h) (Or.inl ⟨by rfl, ?_⟩) ?_ ?_
                    rotate_left
                    · intro w'
                      go_simp
                      with_reducible rfl
                    rotate_left
                    · simp only [Act.put, List.setIfInBounds_toArray, List.set_cons_zero, List.set_cons_succ, i64_w, i32_w]
                      rfl
                    refine pure_ (i := 19) (N := some 119) (v := ?_) (a' := ?_) #[true, true, true, true, true, true, true, true, true, true, true, true, true, true, true, true, true, true, true, true] rfl rfl (any_of HT_.out (by kernel_rfl)) (fun _ _ _ h => h) (Or.inl ⟨by rfl, ?_⟩) ?_ ?_
                    rotate_left
                    · intro w'
                      go_simp
                      with_reducible rfl
                    rotate_left
                    · simp only [Act.put, List.setIfInBounds_toArray, List.set_cons_zero, List.set_cons_succ, i64_w, i32_w]
                      rfl
                    refine done_ (done_of HT_.out (by kernel_rfl)) ?_
                    try go_wp2
                    go_roundg k2
                    case measure => have := HJ7.out; have := HK2.out; omega
                    case rel => exact ⟨(wrap64 (x78_2 + 1)), (by first | rfl | (simp; done) | (simp [*]; done)), H', ⟨by have := HJ7.out; have := HK2.out; omega⟩, ⟨by (with_reducible repeat (first | apply Kd.R_alloc | apply Kd.R_drewN | apply Kd.R_drew)); exact Kd.R_mono HO_76.out (fun _ hk => hk.1)⟩, ⟨lb BK254.out⟩, ⟨by exact lB HB.out⟩⟩
            · replace c30 := Bool.eq_false_iff.mpr c30
              subst c30
              have H1 : (if (t272 != t276) = true then (some false) else (if t272 = true then (if (!(t270.toList == t274.toList) || (!(t271.toList == t275.toList))) = true then (some false) else (laws_FnRootsAndCentres.l0 k2 l1 t253 t255 (t255.length : Int) (wrap64 (x78_2 + 1)) t251 t252)) else (laws_FnRootsAndCentres.l0 k2 l1 t253 t255 (t255.length : Int) (wrap64 (x78_2 + 1)) t251 t252))) = some r := by rw [if_neg (show ¬ (false = true) by decide)] at H; exact H
              clear H
              have H := H1
              clear H1
              by_cases c92 : (t272 != t276) = true
              · rw [if_pos c92] at H
                have c92b0 : (t272 != t276) = true := c92
                (try (have c92b1 : decide (t272 = t276) = false := by simpa using c92))
                (try (have c92b2 : (t272 == t276) = false := by simpa using c92))
                (try (have c92b3 : ¬ (t272 = t276) := by simpa using c92))
                clear c92
                exact absurd ((Option.some.inj H).trans HRT.out) (by decide)
              · rw [if_neg c92] at H
                have c92b0 : (t272 != t276) = false := by simpa using c92
                (try (have c92b1 : decide (t272 = t276) = true := by simpa using c92))
                (try (have c92b2 : (t272 == t276) = true := by simpa using c92))
                clear c92
                by_cases c93 : t272 = true
                · subst c93
                  have H1 : (if (!(t270.toList == t274.toList) || (!(t271.toList == t275.toList))) = true then (some false) else (laws_FnRootsAndCentres.l0 k2 l1 t253 t255 (t255.length : Int) (wrap64 (x78_2 + 1)) t251 t252)) = some r := by rw [if_pos rfl] at H; exact H
                  clear H
                  have H := H1
                  clear H1
                  by_cases c94 : (!(t270.toList == t274.toList) || (!(t271.toList == t275.toList))) = true
                  · rw [if_pos c94] at H
                    have c94b0 : (!(t270.toList == t274.toList) || (!(t271.toList == t275.toList))) = true := c94
                    clear c94
                    exact absurd ((Option.some.inj H).trans HRT.out) (by decide)
                  · rw [if_neg c94] at H
                    have c94b0 : (!(t270.toList == t274.toList) || (!(t271.toList == t275.toList))) = false := by simpa using c94
                    clear c94
                    have H' := Aside0.mk H
                    clear H
                    have p264 : 0 ≤ (x78_2 : Int) := of_decide_eq_true (by first | (with_reducible assumption) | assumption)
                    have q264 : x78_2 < (t255.length : Int) := of_decide_eq_true (by first | (with_reducible assumption) | assumption)
                    obtain ⟨ad264, e264, hx264_0, hx264_1⟩ := at_T25 (Kd.R_reads' HO_76.out).2.2 x78_2 p264 q264
                    cases e264
                    replace p264 := eq_true p264
                    replace q264 := eq_true q264
                    try go_wp2_with (first | ((with_reducible refine gate_dst (N := 12) rfl ?_); (try (refine gate_guard (by rfl) ?_; dsimp only)); refine box_event ?hg (N := 12) ?hd (cs := #[.string (⟨#[]⟩ : ByteArray), .string (⟨#[]⟩ : ByteArray)]) (t := 25) ?hr ?_; (case hd => rfl); (case hg => rfl); (case hr => exact lr); intro gb265 hg w95 hbox hb; have n0_ := Aside0.mk (Kd.R_below (Kd.R_elderB (by (with_reducible repeat (first | apply Kd.R_alloc | apply Kd.R_drewN | apply Kd.R_drew)); exact HO_76.out) gb265 (Nat.le_of_eq hg.symm)) hb); have n1_ := Aside0.mk (blk_below (lb BK254.out) hb); have n2_ := Aside0.mk (below_step (lB HB.out) hb); have n3_ := Aside0.mk (hbox); have n4_ := gw hg (lB HB.out); have n5_ := gw hg (lB HB.out); have n6_ := na hg (lb BK254.out); have n7_ := nz hg (lb BK254.out); clear HO_76 BK254 HB; have HO_76 := n0_; have BK254 := n1_; have HB := n2_; have BK265 := n3_; have GW265 := n4_; have GE265 := n5_; have NB254_265 := n6_; have NB265_254 := n7_; clear n0_ n1_ n2_ n3_ n4_ n5_ n6_ n7_; clear hb hbox hg; have hnb96 := NB265_254.out; have hnc96 := NB254_265.out; have hcz97_0 : w95.cell? ⟨gb265, 0, none⟩ = some (.string (⟨#[]⟩ : ByteArray)) := (blk_cell BK265.out 0).trans rfl; have hcz97_1 : w95.cell? ⟨gb265, 1, none⟩ = some (.string (⟨#[]⟩ : ByteArray)) := (blk_cell BK265.out 1).trans rfl; have hfz97_0 := blk_frozen BK265.out 0; have hfz97_1 := blk_frozen BK265.out 1) | ((with_reducible refine gate_callee (f := 9) rfl ?_); refine goesL_ (some 85) rfl rfl Tryz.func9 (by kernel_rfl) rfl #[.agg #[.string ((rd_T25 t255 x78_2).f0), .string ((rd_T25 t255 x78_2).f1)], .int .i64 t253] rfl lm ?_; (with_reducible refine (impl_PowerPair.calls ((rd_T25 t255 x78_2).f0) ((rd_T25 t255 x78_2).f1) t253 t266 t267 false _ A27.out).mono ?_); rintro e w98 ⟨rfl, hb⟩; refine ⟨_, rfl, ?_⟩; have n0_ := Aside0.mk (Kd.R_below (by (with_reducible repeat (first | apply Kd.R_alloc | apply Kd.R_drewN | apply Kd.R_drew)); exact (Kd.R_mono (Kd.R_far (p := ⟨gb265, 1, none⟩) (Kd.R_far (p := ⟨gb265, 0, none⟩) (Kd.R_mono HO_76.out (fun k_ hk => (⟨hk, hk.2⟩ : _ ∧ k_ ≠ gb265))) (fun _ hk => hk.2) (.string ((rd_T25 t255 x78_2).f0))) (fun _ hk => hk.2) (.string ((rd_T25 t255 x78_2).f1))) (fun _ h_ => h_.1))) hb); have n1_ := Aside0.mk (blk_below (g := gb254) (o := .cells #[.string t251, .string t252] 25 (0, 0)) (by (with_reducible repeat (first | refine blk_drewN ?_ _ | refine blk_drew ?_ | refine blk_alloc ?_ _)); refine blk_far ?_ NB254_265.out _; (with_reducible repeat (first | refine blk_drewN ?_ _ | refine blk_drew ?_ | refine blk_alloc ?_ _)); refine blk_far ?_ NB254_265.out _; exact lb BK254.out) hb); have n2_ := Aside0.mk (blk_below (g := gb265) (o := .cells #[.string ((rd_T25 t255 x78_2).f0), .string ((rd_T25 t255 x78_2).f1)] 25 (0, 0)) (by (with_reducible repeat (first | refine blk_drewN ?_ _ | refine blk_drew ?_ | refine blk_alloc ?_ _)); refine blk_put (cs := #[.string ((rd_T25 t255 x78_2).f0), .string (⟨#[]⟩ : ByteArray)]) ?_ 1 _ rfl; (with_reducible repeat (first | refine blk_drewN ?_ _ | refine blk_drew ?_ | refine blk_alloc ?_ _)); refine blk_put (cs := #[.string (⟨#[]⟩ : ByteArray), .string (⟨#[]⟩ : ByteArray)]) ?_ 0 _ rfl; exact lb BK265.out) hb); have n3_ := Aside0.mk (below_step (lB HB.out) hb); clear HO_76 BK254 BK265 HB; have HO_76 := n0_; have BK254 := n1_; have BK265 := n2_; have HB := n3_; clear n0_ n1_ n2_ n3_; (try clear hb); (try clear hb2); (try clear hk); (try clear hi)) | ((with_reducible refine gate_dst (N := 13) rfl ?_); (try (refine gate_guard (by rfl) ?_; dsimp only)); refine box_event ?hg (N := 13) ?hd (cs := #[.string (⟨#[]⟩ : ByteArray), .string (⟨#[]⟩ : ByteArray)]) (t := 25) ?hr ?_; (case hd => rfl); (case hg => rfl); (case hr => exact lr); intro gb269 hg w99 hbox hb; have n0_ := Aside0.mk (Kd.R_below (Kd.R_elderB (by (with_reducible repeat (first | apply Kd.R_alloc | apply Kd.R_drewN | apply Kd.R_drew)); exact HO_76.out) gb269 (Nat.le_of_eq hg.symm)) hb); have n1_ := Aside0.mk (blk_below (lb BK254.out) hb); have n2_ := Aside0.mk (blk_below (lb BK265.out) hb); have n3_ := Aside0.mk (below_step (lB HB.out) hb); have n4_ := Aside0.mk (hbox); have n5_ := gw hg (lB HB.out); have n6_ := gw hg (lB HB.out); have n7_ := na hg (lb BK254.out); have n8_ := nz hg (lb BK254.out); have n9_ := na hg (lb BK265.out); have n10_ := nz hg (lb BK265.out); clear HO_76 BK254 BK265 HB; have HO_76 := n0_; have BK254 := n1_; have BK265 := n2_; have HB := n3_; have BK269 := n4_; have GW269 := n5_; have GE269 := n6_; have NB254_269 := n7_; have NB269_254 := n8_; have NB265_269 := n9_; have NB269_265 := n10_; clear n0_ n1_ n2_ n3_ n4_ n5_ n6_ n7_ n8_ n9_ n10_; clear hb hbox hg; have hnb100 := NB269_254.out; have hnc100 := NB254_269.out; have hnb101 := NB269_265.out; have hnc101 := NB265_269.out; have hcz102_0 : w99.cell? ⟨gb269, 0, none⟩ = some (.string (⟨#[]⟩ : ByteArray)) := (blk_cell BK269.out 0).trans rfl; have hcz102_1 : w99.cell? ⟨gb269, 1, none⟩ = some (.string (⟨#[]⟩ : ByteArray)) := (blk_cell BK269.out 1).trans rfl; have hfz102_0 := blk_frozen BK269.out 0; have hfz102_1 := blk_frozen BK269.out 1; have hcz103_0 : w99.cell? ⟨gb254, 0, none⟩ = some (.string t251) := (blk_cell BK254.out 0).trans rfl; have hcz103_1 : w99.cell? ⟨gb254, 1, none⟩ = some (.string t252) := (blk_cell BK254.out 1).trans rfl; have hfz103_0 := blk_frozen BK254.out 0; have hfz103_1 := blk_frozen BK254.out 1; have hcz104_0 : w99.cell? ⟨gb265, 0, none⟩ = some (.string ((rd_T25 t255 x78_2).f0)) := (blk_cell BK265.out 0).trans rfl; have hcz104_1 : w99.cell? ⟨gb265, 1, none⟩ = some (.string ((rd_T25 t255 x78_2).f1)) := (blk_cell BK265.out 1).trans rfl; have hfz104_0 := blk_frozen BK265.out 0; have hfz104_1 := blk_frozen BK265.out 1) | ((with_reducible refine gate_callee (f := 10) rfl ?_); refine goesL_ (some 91) rfl rfl Tryz.func10 (by kernel_rfl) rfl #[.agg #[.string t251, .string t252], .agg #[.string ((rd_T25 t255 x78_2).f0), .string ((rd_T25 t255 x78_2).f1)]] rfl lm ?_; (with_reducible refine (impl_ProductPair.calls t251 t252 ((rd_T25 t255 x78_2).f0) ((rd_T25 t255 x78_2).f1) t270 t271 true _ A28.out).mono ?_); rintro e w105 ⟨rfl, hb⟩; refine ⟨_, rfl, ?_⟩; have n0_ := Aside0.mk (Kd.R_below (by (with_reducible repeat (first | apply Kd.R_alloc | apply Kd.R_drewN | apply Kd.R_drew)); exact (Kd.R_mono (Kd.R_far (p := ⟨gb269, 1, none⟩) (Kd.R_far (p := ⟨gb269, 0, none⟩) (Kd.R_mono HO_76.out (fun k_ hk => (⟨hk, hk.2⟩ : _ ∧ k_ ≠ gb269))) (fun _ hk => hk.2) (.string t266)) (fun _ hk => hk.2) (.string t267)) (fun _ h_ => h_.1))) hb); have n1_ := Aside0.mk (blk_below (g := gb254) (o := .cells #[.string t251, .string t252] 25 (0, 0)) (by (with_reducible repeat (first | refine blk_drewN ?_ _ | refine blk_drew ?_ | refine blk_alloc ?_ _)); refine blk_far ?_ NB254_269.out _; (with_reducible repeat (first | refine blk_drewN ?_ _ | refine blk_drew ?_ | refine blk_alloc ?_ _)); refine blk_far ?_ NB254_269.out _; exact lb BK254.out) hb); have n2_ := Aside0.mk (blk_below (g := gb265) (o := .cells #[.string ((rd_T25 t255 x78_2).f0), .string ((rd_T25 t255 x78_2).f1)] 25 (0, 0)) (by (with_reducible repeat (first | refine blk_drewN ?_ _ | refine blk_drew ?_ | refine blk_alloc ?_ _)); refine blk_far ?_ NB265_269.out _; (with_reducible repeat (first | refine blk_drewN ?_ _ | refine blk_drew ?_ | refine blk_alloc ?_ _)); refine blk_far ?_ NB265_269.out _; exact lb BK265.out) hb); have n3_ := Aside0.mk (blk_below (g := gb269) (o := .cells #[.string t266, .string t267] 25 (0, 0)) (by (with_reducible repeat (first | refine blk_drewN ?_ _ | refine blk_drew ?_ | refine blk_alloc ?_ _)); refine blk_put (cs := #[.string t266, .string (⟨#[]⟩ : ByteArray)]) ?_ 1 _ rfl; (with_reducible repeat (first | refine blk_drewN ?_ _ | refine blk_drew ?_ | refine blk_alloc ?_ _)); refine blk_put (cs := #[.string (⟨#[]⟩ : ByteArray), .string (⟨#[]⟩ : ByteArray)]) ?_ 0 _ rfl; exact lb BK269.out) hb); have n4_ := Aside0.mk (below_step (lB HB.out) hb); clear HO_76 BK254 BK265 BK269 HB; have HO_76 := n0_; have BK254 := n1_; have BK265 := n2_; have BK269 := n3_; have HB := n4_; clear n0_ n1_ n2_ n3_ n4_; (try clear hb); (try clear hb2); (try clear hk); (try clear hi)) | ((with_reducible refine gate_dst (N := 15) rfl ?_); (try (refine gate_guard (by rfl) ?_; dsimp only)); refine box_event ?hg (N := 15) ?hd (cs := #[.string (⟨#[]⟩ : ByteArray), .string (⟨#[]⟩ : ByteArray)]) (t := 25) ?hr ?_; (case hd => rfl); (case hg => rfl); (case hr => exact lr); intro gb273 hg w106 hbox hb; have n0_ := Aside0.mk (Kd.R_below (Kd.R_elderB (by (with_reducible repeat (first | apply Kd.R_alloc | apply Kd.R_drewN | apply Kd.R_drew)); exact HO_76.out) gb273 (Nat.le_of_eq hg.symm)) hb); have n1_ := Aside0.mk (blk_below (lb BK254.out) hb); have n2_ := Aside0.mk (blk_below (lb BK265.out) hb); have n3_ := Aside0.mk (blk_below (lb BK269.out) hb); have n4_ := Aside0.mk (below_step (lB HB.out) hb); have n5_ := Aside0.mk (hbox); have n6_ := gw hg (lB HB.out); have n7_ := gw hg (lB HB.out); have n8_ := na hg (lb BK254.out); have n9_ := nz hg (lb BK254.out); have n10_ := na hg (lb BK265.out); have n11_ := nz hg (lb BK265.out); have n12_ := na hg (lb BK269.out); have n13_ := nz hg (lb BK269.out); clear HO_76 BK254 BK265 BK269 HB; have HO_76 := n0_; have BK254 := n1_; have BK265 := n2_; have BK269 := n3_; have HB := n4_; have BK273 := n5_; have GW273 := n6_; have GE273 := n7_; have NB254_273 := n8_; have NB273_254 := n9_; have NB265_273 := n10_; have NB273_265 := n11_; have NB269_273 := n12_; have NB273_269 := n13_; clear n0_ n1_ n2_ n3_ n4_ n5_ n6_ n7_ n8_ n9_ n10_ n11_ n12_ n13_; clear hb hbox hg; have hnb107 := NB273_254.out; have hnc107 := NB254_273.out; have hnb108 := NB273_265.out; have hnc108 := NB265_273.out; have hnb109 := NB273_269.out; have hnc109 := NB269_273.out; have hcz110_0 : w106.cell? ⟨gb273, 0, none⟩ = some (.string (⟨#[]⟩ : ByteArray)) := (blk_cell BK273.out 0).trans rfl; have hcz110_1 : w106.cell? ⟨gb273, 1, none⟩ = some (.string (⟨#[]⟩ : ByteArray)) := (blk_cell BK273.out 1).trans rfl; have hfz110_0 := blk_frozen BK273.out 0; have hfz110_1 := blk_frozen BK273.out 1; have hcz111_0 : w106.cell? ⟨gb265, 0, none⟩ = some (.string ((rd_T25 t255 x78_2).f0)) := (blk_cell BK265.out 0).trans rfl; have hcz111_1 : w106.cell? ⟨gb265, 1, none⟩ = some (.string ((rd_T25 t255 x78_2).f1)) := (blk_cell BK265.out 1).trans rfl; have hfz111_0 := blk_frozen BK265.out 0; have hfz111_1 := blk_frozen BK265.out 1; have hcz112_0 : w106.cell? ⟨gb254, 0, none⟩ = some (.string t251) := (blk_cell BK254.out 0).trans rfl; have hcz112_1 : w106.cell? ⟨gb254, 1, none⟩ = some (.string t252) := (blk_cell BK254.out 1).trans rfl; have hfz112_0 := blk_frozen BK254.out 0; have hfz112_1 := blk_frozen BK254.out 1) | ((with_reducible refine gate_callee (f := 10) rfl ?_); refine goesL_ (some 97) rfl rfl Tryz.func10 (by kernel_rfl) rfl #[.agg #[.string ((rd_T25 t255 x78_2).f0), .string ((rd_T25 t255 x78_2).f1)], .agg #[.string t251, .string t252]] rfl lm ?_; (with_reducible refine (impl_ProductPair.calls ((rd_T25 t255 x78_2).f0) ((rd_T25 t255 x78_2).f1) t251 t252 t274 t275 t276 _ A29.out).mono ?_); rintro e w113 ⟨rfl, hb⟩; refine ⟨_, rfl, ?_⟩; have n0_ := Aside0.mk (Kd.R_below (by (with_reducible repeat (first | apply Kd.R_alloc | apply Kd.R_drewN | apply Kd.R_drew)); exact (Kd.R_mono (Kd.R_far (p := ⟨gb273, 1, none⟩) (Kd.R_far (p := ⟨gb273, 0, none⟩) (Kd.R_mono HO_76.out (fun k_ hk => (⟨hk, hk.2⟩ : _ ∧ k_ ≠ gb273))) (fun _ hk => hk.2) (.string t270)) (fun _ hk => hk.2) (.string t271)) (fun _ h_ => h_.1))) hb); have n1_ := Aside0.mk (blk_below (g := gb254) (o := .cells #[.string t251, .string t252] 25 (0, 0)) (by (with_reducible repeat (first | refine blk_drewN ?_ _ | refine blk_drew ?_ | refine blk_alloc ?_ _)); refine blk_far ?_ NB254_273.out _; (with_reducible repeat (first | refine blk_drewN ?_ _ | refine blk_drew ?_ | refine blk_alloc ?_ _)); refine blk_far ?_ NB254_273.out _; exact lb BK254.out) hb); have n2_ := Aside0.mk (blk_below (g := gb265) (o := .cells #[.string ((rd_T25 t255 x78_2).f0), .string ((rd_T25 t255 x78_2).f1)] 25 (0, 0)) (by (with_reducible repeat (first | refine blk_drewN ?_ _ | refine blk_drew ?_ | refine blk_alloc ?_ _)); refine blk_far ?_ NB265_273.out _; (with_reducible repeat (first | refine blk_drewN ?_ _ | refine blk_drew ?_ | refine blk_alloc ?_ _)); refine blk_far ?_ NB265_273.out _; exact lb BK265.out) hb); have n3_ := Aside0.mk (blk_below (g := gb269) (o := .cells #[.string t266, .string t267] 25 (0, 0)) (by (with_reducible repeat (first | refine blk_drewN ?_ _ | refine blk_drew ?_ | refine blk_alloc ?_ _)); refine blk_far ?_ NB269_273.out _; (with_reducible repeat (first | refine blk_drewN ?_ _ | refine blk_drew ?_ | refine blk_alloc ?_ _)); refine blk_far ?_ NB269_273.out _; exact lb BK269.out) hb); have n4_ := Aside0.mk (blk_below (g := gb273) (o := .cells #[.string t270, .string t271] 25 (0, 0)) (by (with_reducible repeat (first | refine blk_drewN ?_ _ | refine blk_drew ?_ | refine blk_alloc ?_ _)); refine blk_put (cs := #[.string t270, .string (⟨#[]⟩ : ByteArray)]) ?_ 1 _ rfl; (with_reducible repeat (first | refine blk_drewN ?_ _ | refine blk_drew ?_ | refine blk_alloc ?_ _)); refine blk_put (cs := #[.string (⟨#[]⟩ : ByteArray), .string (⟨#[]⟩ : ByteArray)]) ?_ 0 _ rfl; exact lb BK273.out) hb); have n5_ := Aside0.mk (below_step (lB HB.out) hb); clear HO_76 BK254 BK265 BK269 BK273 HB; have HO_76 := n0_; have BK254 := n1_; have BK265 := n2_; have BK269 := n3_; have BK273 := n4_; have HB := n5_; clear n0_ n1_ n2_ n3_ n4_ n5_; (try clear hb); (try clear hb2); (try clear hk); (try clear hi)) | ((with_reducible refine gate_dst (N := 17) rfl ?_); (try (refine gate_guard (by rfl) ?_; dsimp only)); refine box_event ?hg (N := 17) ?hd (cs := #[.string (⟨#[]⟩ : ByteArray), .string (⟨#[]⟩ : ByteArray)]) (t := 25) ?hr ?_; (case hd => rfl); (case hg => rfl); (case hr => exact lr); intro gb277 hg w114 hbox hb; have n0_ := Aside0.mk (Kd.R_below (Kd.R_elderB (by (with_reducible repeat (first | apply Kd.R_alloc | apply Kd.R_drewN | apply Kd.R_drew)); exact HO_76.out) gb277 (Nat.le_of_eq hg.symm)) hb); have n1_ := Aside0.mk (blk_below (lb BK254.out) hb); have n2_ := Aside0.mk (blk_below (lb BK265.out) hb); have n3_ := Aside0.mk (blk_below (lb BK269.out) hb); have n4_ := Aside0.mk (blk_below (lb BK273.out) hb); have n5_ := Aside0.mk (below_step (lB HB.out) hb); have n6_ := Aside0.mk (hbox); have n7_ := gw hg (lB HB.out); have n8_ := gw hg (lB HB.out); have n9_ := na hg (lb BK254.out); have n10_ := nz hg (lb BK254.out); have n11_ := na hg (lb BK265.out); have n12_ := nz hg (lb BK265.out); have n13_ := na hg (lb BK269.out); have n14_ := nz hg (lb BK269.out); have n15_ := na hg (lb BK273.out); have n16_ := nz hg (lb BK273.out); clear HO_76 BK254 BK265 BK269 BK273 HB; have HO_76 := n0_; have BK254 := n1_; have BK265 := n2_; have BK269 := n3_; have BK273 := n4_; have HB := n5_; have BK277 := n6_; have GW277 := n7_; have GE277 := n8_; have NB254_277 := n9_; have NB277_254 := n10_; have NB265_277 := n11_; have NB277_265 := n12_; have NB269_277 := n13_; have NB277_269 := n14_; have NB273_277 := n15_; have NB277_273 := n16_; clear n0_ n1_ n2_ n3_ n4_ n5_ n6_ n7_ n8_ n9_ n10_ n11_ n12_ n13_ n14_ n15_ n16_; clear hb hbox hg; have hnb115 := NB277_254.out; have hnc115 := NB254_277.out; have hnb116 := NB277_265.out; have hnc116 := NB265_277.out; have hnb117 := NB277_269.out; have hnc117 := NB269_277.out; have hnb118 := NB277_273.out; have hnc118 := NB273_277.out; have hcz119_0 : w114.cell? ⟨gb277, 0, none⟩ = some (.string (⟨#[]⟩ : ByteArray)) := (blk_cell BK277.out 0).trans rfl; have hcz119_1 : w114.cell? ⟨gb277, 1, none⟩ = some (.string (⟨#[]⟩ : ByteArray)) := (blk_cell BK277.out 1).trans rfl; have hfz119_0 := blk_frozen BK277.out 0; have hfz119_1 := blk_frozen BK277.out 1))
                    have n0_ : Aside0 (Kd.R k25 25 ((w114.setCell ⟨gb277, 0, none⟩ (.string t274)).setCell ⟨gb277, 1, none⟩ (.string t275)) w.heap.size (fun k_ => k_ ≠ gb254 ∧ k_ ≠ gb265 ∧ k_ ≠ gb269 ∧ k_ ≠ gb273 ∧ k_ ≠ gb277) (.slice (some ad264) t255.length co23) t255) := ⟨by (with_reducible repeat (first | apply Kd.R_alloc | apply Kd.R_drewN | apply Kd.R_drew)); exact Kd.R_mono (Kd.R_far (p := ⟨gb277, 1, none⟩) (Kd.R_far (p := ⟨gb277, 0, none⟩) (Kd.R_mono HO_76.out (fun k_ hk => (⟨hk, hk.2⟩ : _ ∧ k_ ≠ gb277))) (fun _ hk => hk.2) (.string t274)) (fun _ hk => hk.2) (.string t275)) (fun _ hk => ⟨hk.1.1.1.1.1, ⟨hk.1.1.1.1.2, ⟨hk.1.1.1.2, ⟨hk.1.1.2, hk.1.2⟩⟩⟩⟩)⟩
                    have n1_ : Aside0 (((w114.setCell ⟨gb277, 0, none⟩ (.string t274)).setCell ⟨gb277, 1, none⟩ (.string t275)).heap[gb254]? = some (.cells #[.string t251, .string t252] 25 (0, 0))) := ⟨by (with_reducible repeat (first | refine blk_drewN ?_ _ | refine blk_drew ?_ | refine blk_alloc ?_ _)); refine blk_far ?_ NB254_277.out _; (with_reducible repeat (first | refine blk_drewN ?_ _ | refine blk_drew ?_ | refine blk_alloc ?_ _)); refine blk_far ?_ NB254_277.out _; exact lb BK254.out⟩
                    have n2_ : Aside0 (((w114.setCell ⟨gb277, 0, none⟩ (.string t274)).setCell ⟨gb277, 1, none⟩ (.string t275)).heap[gb265]? = some (.cells #[.string ((rd_T25 t255 x78_2).f0), .string ((rd_T25 t255 x78_2).f1)] 25 (0, 0))) := ⟨by (with_reducible repeat (first | refine blk_drewN ?_ _ | refine blk_drew ?_ | refine blk_alloc ?_ _)); refine blk_far ?_ NB265_277.out _; (with_reducible repeat (first | refine blk_drewN ?_ _ | refine blk_drew ?_ | refine blk_alloc ?_ _)); refine blk_far ?_ NB265_277.out _; exact lb BK265.out⟩
                    have n3_ : Aside0 (((w114.setCell ⟨gb277, 0, none⟩ (.string t274)).setCell ⟨gb277, 1, none⟩ (.string t275)).heap[gb269]? = some (.cells #[.string t266, .string t267] 25 (0, 0))) := ⟨by (with_reducible repeat (first | refine blk_drewN ?_ _ | refine blk_drew ?_ | refine blk_alloc ?_ _)); refine blk_far ?_ NB269_277.out _; (with_reducible repeat (first | refine blk_drewN ?_ _ | refine blk_drew ?_ | refine blk_alloc ?_ _)); refine blk_far ?_ NB269_277.out _; exact lb BK269.out⟩
                    have n4_ : Aside0 (((w114.setCell ⟨gb277, 0, none⟩ (.string t274)).setCell ⟨gb277, 1, none⟩ (.string t275)).heap[gb273]? = some (.cells #[.string t270, .string t271] 25 (0, 0))) := ⟨by (with_reducible repeat (first | refine blk_drewN ?_ _ | refine blk_drew ?_ | refine blk_alloc ?_ _)); refine blk_far ?_ NB273_277.out _; (with_reducible repeat (first | refine blk_drewN ?_ _ | refine blk_drew ?_ | refine blk_alloc ?_ _)); refine blk_far ?_ NB273_277.out _; exact lb BK273.out⟩
                    have n5_ : Aside0 (((w114.setCell ⟨gb277, 0, none⟩ (.string t274)).setCell ⟨gb277, 1, none⟩ (.string t275)).heap[gb277]? = some (.cells #[.string t274, .string t275] 25 (0, 0))) := ⟨by (with_reducible repeat (first | refine blk_drewN ?_ _ | refine blk_drew ?_ | refine blk_alloc ?_ _)); refine blk_put (cs := #[.string t274, .string (⟨#[]⟩ : ByteArray)]) ?_ 1 _ rfl; (with_reducible repeat (first | refine blk_drewN ?_ _ | refine blk_drew ?_ | refine blk_alloc ?_ _)); refine blk_put (cs := #[.string (⟨#[]⟩ : ByteArray), .string (⟨#[]⟩ : ByteArray)]) ?_ 0 _ rfl; exact lb BK277.out⟩
                    have n6_ : Aside0 (Below w.heap.size w ((w114.setCell ⟨gb277, 0, none⟩ (.string t274)).setCell ⟨gb277, 1, none⟩ (.string t275))) := ⟨by exact lB HB.out⟩
                    (try clear HO_76)
                    (try clear BK254)
                    (try clear BK265)
                    (try clear BK269)
                    (try clear BK273)
                    (try clear BK277)
                    (try clear HB)
                    generalize ((w114.setCell ⟨gb277, 0, none⟩ (.string t274)).setCell ⟨gb277, 1, none⟩ (.string t275)) = w120 at n0_ n1_ n2_ n3_ n4_ n5_ n6_ ⊢
                    have HO_76 := n0_
                    have BK254 := n1_
                    have BK265 := n2_
                    have BK269 := n3_
                    have BK273 := n4_
                    have BK277 := n5_
                    have HB := n6_
                    clear n0_ n1_ n2_ n3_ n4_ n5_ n6_
                    have n0_ := Aside0.mk (Kd.R_drew HO_76.out)
                    have n1_ := Aside0.mk (blk_drew BK254.out)
                    have n2_ := Aside0.mk (blk_drew BK265.out)
                    have n3_ := Aside0.mk (blk_drew BK269.out)
                    have n4_ := Aside0.mk (blk_drew BK273.out)
                    have n5_ := Aside0.mk (blk_drew BK277.out)
                    have n6_ := Aside0.mk (below_drew1 HB.out)
                    clear HO_76
                    clear BK254
                    clear BK265
                    clear BK269
                    clear BK273
                    clear BK277
                    clear HB
                    have HO_76 := n0_
                    have BK254 := n1_
                    have BK265 := n2_
                    have BK269 := n3_
                    have BK273 := n4_
                    have BK277 := n5_
                    have HB := n6_
                    clear n0_ n1_ n2_ n3_ n4_ n5_ n6_
                    refine start_ (n := 20) (S := fun w' => w'.cell? ⟨gb273, 0, none⟩ = some (.string t270) ∧ w'.cell? ⟨gb273, 1, none⟩ = some (.string t271) ∧ w'.cell? ⟨gb277, 0, none⟩ = some (.string t274) ∧ w'.cell? ⟨gb277, 1, none⟩ = some (.string t275)) (ds := []) #[false, false, false, false, false, false, false, false, false, false, false, false, false, false, false, false, false, false, false, false] (by kernel_rfl) rfl rfl ⟨(blk_cell BK273.out 0).trans rfl, (blk_cell BK273.out 1).trans rfl, (blk_cell BK277.out 0).trans rfl, (blk_cell BK277.out 1).trans rfl⟩ (fun hHeld => ?_); refine with_tabW laws_FnRootsAndCentres.tab14 laws_FnRootsAndCentres.bits14 (fun HT_ HW_ => ?_)
                    generalize w120.drew = w121 at HO_76 BK254 BK265 BK269 BK273 BK277 HB hHeld ⊢
                    refine pure_ (i := 0) (N := some 100) (v := ?_) (a' := ?_) #[true, false, false, false, false, false, false, false, false, false, false, false, false, false, false, false, false, false, false, false] rfl rfl (any_of HT_.out (by kernel_rfl)) (fun _ _ _ h => h) (Or.inl ⟨by rfl, ?_⟩) ?_ ?_
                    rotate_left
                    · intro w'
                      go_simp
                      with_reducible rfl
                    rotate_left
                    · simp only [Act.put, List.setIfInBounds_toArray, List.set_cons_zero, List.set_cons_succ, i64_w, i32_w]
                      rfl
                    refine pure_ (i := 1) (N := some 101) (v := ?_) (a' := ?_) #[true, true, false, false, false, false, false, false, false, false, false, false, false, false, false, false, false, false, false, false] rfl rfl (any_of HT_.out (by kernel_rfl)) (fun _ _ _ h => h) (Or.inl ⟨by rfl, ?_⟩) ?_ ?_
                    rotate_left
                    · intro w'
                      go_simp
                      with_reducible rfl
                    rotate_left
                    · simp only [Act.put, List.setIfInBounds_toArray, List.set_cons_zero, List.set_cons_succ, i64_w, i32_w]
                      rfl
                    refine pure_ (i := 2) (N := some 102) (v := undef) (a' := ?_) #[true, true, true, false, false, false, false, false, false, false, false, false, false, false, false, false, false, false, false, false] rfl rfl (any_of HT_.out (by kernel_rfl)) (fun _ _ _ h => h) (Or.inr ⟨by rfl, rfl⟩) ?_ ?_
                    rotate_left
                    · simp only [Act.put, List.setIfInBounds_toArray, List.set_cons_zero, List.set_cons_succ, i64_w, i32_w]
                      rfl
                    refine pure_ (i := 3) (N := some 103) (v := undef) (a' := ?_) #[true, true, true, true, false, false, false, false, false, false, false, false, false, false, false, false, false, false, false, false] rfl rfl (any_of HT_.out (by kernel_rfl)) (fun _ _ _ h => h) (Or.inr ⟨by rfl, rfl⟩) ?_ ?_
                    rotate_left
                    · simp only [Act.put, List.setIfInBounds_toArray, List.set_cons_zero, List.set_cons_succ, i64_w, i32_w]
                      rfl
                    refine pure_ (i := 4) (N := some 104) (v := undef) (a' := ?_) #[true, true, true, true, true, false, false, false, false, false, false, false, false, false, false, false, false, false, false, false] rfl rfl (any_of HT_.out (by kernel_rfl)) (fun _ _ _ h => h) (Or.inr ⟨by rfl, rfl⟩) ?_ ?_
                    rotate_left
                    · simp only [Act.put, List.setIfInBounds_toArray, List.set_cons_zero, List.set_cons_succ, i64_w, i32_w]
                      rfl
                    refine pure_ (i := 5) (N := some 105) (v := undef) (a' := ?_) #[true, true, true, true, true, true, false, false, false, false, false, false, false, false, false, false, false, false, false, false] rfl rfl (any_of HT_.out (by kernel_rfl)) (fun _ _ _ h => h) (Or.inr ⟨by rfl, rfl⟩) ?_ ?_
                    rotate_left
                    · simp only [Act.put, List.setIfInBounds_toArray, List.set_cons_zero, List.set_cons_succ, i64_w, i32_w]
                      rfl
                    refine pure_ (i := 6) (N := some 106) (v := ?_) (a' := ?_) #[true, true, true, true, true, true, true, false, false, false, false, false, false, false, false, false, false, false, false, false] rfl rfl (any_of HT_.out (by kernel_rfl)) (fun _ _ _ h => h) (Or.inl ⟨by rfl, ?_⟩) ?_ ?_
                    rotate_left
                    · intro w'
                      go_simp
                      with_reducible rfl
                    rotate_left
                    · simp only [Act.put, List.setIfInBounds_toArray, List.set_cons_zero, List.set_cons_succ, i64_w, i32_w]
                      rfl
                    refine pure_ (i := 7) (N := some 107) (v := ?_) (a' := ?_) #[true, true, true, true, true, true, true, true, false, false, false, false, false, false, false, false, false, false, false, false] rfl rfl (any_of HT_.out (by kernel_rfl)) (fun _ _ _ h => h) (Or.inl ⟨by rfl, ?_⟩) ?_ ?_
                    rotate_left
                    · intro w'
                      go_simp
                      with_reducible rfl
                    rotate_left
                    · simp only [Act.put, List.setIfInBounds_toArray, List.set_cons_zero, List.set_cons_succ, i64_w, i32_w]
                      rfl
                    refine pure_ (i := 8) (N := some 108) (v := ?_) (a' := ?_) #[true, true, true, true, true, true, true, true, true, false, false, false, false, false, false, false, false, false, false, false] rfl rfl (any_of HT_.out (by kernel_rfl)) (fun _ _ _ h => h) (Or.inl ⟨by rfl, ?_⟩) ?_ ?_
                    rotate_left
                    · intro w'
                      go_simp
                      with_reducible rfl
                    rotate_left
                    · simp only [Act.put, List.setIfInBounds_toArray, List.set_cons_zero, List.set_cons_succ, i64_w, i32_w]
                      rfl
                    refine pure_ (i := 9) (N := some 109) (v := ?_) (a' := ?_) #[true, true, true, true, true, true, true, true, true, true, false, false, false, false, false, false, false, false, false, false] rfl rfl (any_of HT_.out (by kernel_rfl)) (fun _ _ _ h => h) (Or.inl ⟨by rfl, ?_⟩) ?_ ?_
                    rotate_left
                    · intro w'
                      go_simp
                      with_reducible rfl
                    rotate_left
                    · simp only [Act.put, List.setIfInBounds_toArray, List.set_cons_zero, List.set_cons_succ, i64_w, i32_w]
                      rfl
                    refine pure_ (i := 10) (N := some 110) (v := ?_) (a' := ?_) #[true, true, true, true, true, true, true, true, true, true, true, false, false, false, false, false, false, false, false, false] rfl rfl (any_of HT_.out (by kernel_rfl)) (fun _ _ _ h => h) (Or.inl ⟨by rfl, ?_⟩) ?_ ?_
                    rotate_left
                    · intro w'
                      go_simp
                      with_reducible rfl
                    rotate_left
                    · simp only [Act.put, List.setIfInBounds_toArray, List.set_cons_zero, List.set_cons_succ, i64_w, i32_w]
                      rfl
                    refine pure_ (i := 11) (N := some 111) (v := ?_) (a' := ?_) #[true, true, true, true, true, true, true, true, true, true, true, true, false, false, false, false, false, false, false, false] rfl rfl (any_of HT_.out (by kernel_rfl)) (fun _ _ _ h => h) (Or.inl ⟨by rfl, ?_⟩) ?_ ?_
                    rotate_left
                    · intro w'
                      go_simp
                      with_reducible rfl
                    rotate_left
                    · simp only [Act.put, List.setIfInBounds_toArray, List.set_cons_zero, List.set_cons_succ, i64_w, i32_w]
                      rfl
                    refine pure_ (i := 12) (N := some 112) (v := ?_) (a' := ?_) #[true, true, true, true, true, true, true, true, true, true, true, true, true, false, false, false, false, false, false, false] rfl rfl (any_of HT_.out (by kernel_rfl)) (fun _ _ _ h => h) (Or.inl ⟨by rfl, ?_⟩) ?_ ?_
                    rotate_left
                    · intro w'
                      go_simp
                      with_reducible rfl
                    rotate_left
                    · simp only [Act.put, List.setIfInBounds_toArray, List.set_cons_zero, List.set_cons_succ, i64_w, i32_w]
                      rfl
                    refine pure_ (i := 13) (N := some 113) (v := ?_) (a' := ?_) #[true, true, true, true, true, true, true, true, true, true, true, true, true, true, false, false, false, false, false, false] rfl rfl (any_of HT_.out (by kernel_rfl)) (fun _ _ _ h => h) (Or.inl ⟨by rfl, ?_⟩) ?_ ?_
                    rotate_left
                    · intro w'
                      go_simp
                      with_reducible rfl
                    rotate_left
                    · simp only [Act.put, List.setIfInBounds_toArray, List.set_cons_zero, List.set_cons_succ, i64_w, i32_w]
                      rfl
                    refine pure_ (i := 14) (N := some 114) (v := ?_) (a' := ?_) #[true, true, true, true, true, true, true, true, true, true, true, true, true, true, true, false, false, false, false, false] rfl rfl (any_of HT_.out (by kernel_rfl)) (fun _ _ _ h => h) (Or.inl ⟨by rfl, ?_⟩) ?_ ?_
                    rotate_left
                    · intro w'
                      go_simp
                      with_reducible rfl
                    rotate_left
                    · simp only [Act.put, List.setIfInBounds_toArray, List.set_cons_zero, List.set_cons_succ, i64_w, i32_w]
                      rfl
                    refine take_ (i := 15) (N := some 115) (v := ?_) (a' := ?_) #[true, true, true, true, true, true, true, true, true, true, true, true, true, true, true, true, false, false, false, false] rfl rfl (take_ofW HT_.out HW_.out (by kernel_rfl)) (fun _ _ _ h => h) (Or.inl ⟨by rfl, ?_⟩) hHeld ?_ ?_
                    rotate_left
                    · rintro w' ⟨s0, s1, s2, s3⟩
                      go_simp
                      with_reducible rfl
                    rotate_left
                    · simp only [Act.put, List.setIfInBounds_toArray, List.set_cons_zero, List.set_cons_succ, i64_w, i32_w]
                      rfl
                    refine take_ (i := 16) (N := some 116) (v := ?_) (a' := ?_) #[true, true, true, true, true, true, true, true, true, true, true, true, true, true, true, true, true, false, false, false] rfl rfl (take_ofW HT_.out HW_.out (by kernel_rfl)) (fun _ _ _ h => h) (Or.inl ⟨by rfl, ?_⟩) hHeld ?_ ?_
                    rotate_left
                    · rintro w' ⟨s0, s1, s2, s3⟩
                      go_simp
                      with_reducible rfl
                    rotate_left
                    · simp only [Act.put, List.setIfInBounds_toArray, List.set_cons_zero, List.set_cons_succ, i64_w, i32_w]
                      rfl
                    refine pure_ (i := 17) (N := some 117) (v := ?_) (a' := ?_) #[true, true, true, true, true, true, true, true, true, true, true, true, true, true, true, true, true, true, false, false] rfl rfl (any_of HT_.out (by kernel_rfl)) (fun _ _ _ h => h) (Or.inl ⟨by rfl, ?_⟩) ?_ ?_
                    rotate_left
                    · intro w'
                      go_simp
                      with_reducible rfl
                    rotate_left
                    · simp only [Act.put, List.setIfInBounds_toArray, List.set_cons_zero, List.set_cons_succ, i64_w, i32_w]
                      rfl
                    refine pure_ (i := 18) (N := some 118) (v := ?_) (a' := ?_) #[true, true, true, true, true, true, true, true, true, true, true, true, true, true, true, true, true, true, true, false] rfl rfl (any_of HT_.out (by kernel_rfl)) (fun _ _ _ h => h) (Or.inl ⟨by rfl, ?_⟩) ?_ ?_
                    rotate_left
                    · intro w'
                      go_simp
                      with_reducible rfl
                    rotate_left
                    · simp only [Act.put, List.setIfInBounds_toArray, List.set_cons_zero, List.set_cons_succ, i64_w, i32_w]
                      rfl
                    refine pure_ (i := 19) (N := some 119) (v := ?_) (a' := ?_) #[true, true, true, true, true, true, true, true, true, true, true, true, true, true, true, true, true, true, true, true] rfl rfl (any_of HT_.out (by kernel_rfl)) (fun _ _ _ h => h) (Or.inl ⟨by rfl, ?_⟩) ?_ ?_
                    rotate_left
                    · intro w'
                      go_simp
                      with_reducible rfl
                    rotate_left
                    · simp only [Act.put, List.setIfInBounds_toArray, List.set_cons_zero, List.set_cons_succ, i64_w, i32_w]
                      rfl
                    refine done_ (done_of HT_.out (by kernel_rfl)) ?_
                    try go_wp2
                    go_roundg k2
                    case measure => have := HJ7.out; have := HK2.out; omega
                    case rel => exact ⟨(wrap64 (x78_2 + 1)), (by first | rfl | (simp; done) | (simp [*]; done)), H', ⟨by have := HJ7.out; have := HK2.out; omega⟩, ⟨by (with_reducible repeat (first | apply Kd.R_alloc | apply Kd.R_drewN | apply Kd.R_drew)); exact Kd.R_mono HO_76.out (fun _ hk => hk.1)⟩, ⟨lb BK254.out⟩, ⟨by exact lB HB.out⟩⟩
                · replace c93 := Bool.eq_false_iff.mpr c93
                  subst c93
                  have H1 : (laws_FnRootsAndCentres.l0 k2 l1 t253 t255 (t255.length : Int) (wrap64 (x78_2 + 1)) t251 t252) = some r := by rw [if_neg (show ¬ (false = true) by decide)] at H; exact H
                  clear H
                  have H := H1
                  clear H1
                  have H' := Aside0.mk H
                  clear H
                  have p264 : 0 ≤ (x78_2 : Int) := of_decide_eq_true (by first | (with_reducible assumption) | assumption)
                  have q264 : x78_2 < (t255.length : Int) := of_decide_eq_true (by first | (with_reducible assumption) | assumption)
                  obtain ⟨ad264, e264, hx264_0, hx264_1⟩ := at_T25 (Kd.R_reads' HO_76.out).2.2 x78_2 p264 q264
                  cases e264
                  replace p264 := eq_true p264
                  replace q264 := eq_true q264
                  try go_wp2_with (first | ((with_reducible refine gate_dst (N := 12) rfl ?_); (try (refine gate_guard (by rfl) ?_; dsimp only)); refine box_event ?hg (N := 12) ?hd (cs := #[.string (⟨#[]⟩ : ByteArray), .string (⟨#[]⟩ : ByteArray)]) (t := 25) ?hr ?_; (case hd => rfl); (case hg => rfl); (case hr => exact lr); intro gb265 hg w122 hbox hb; have n0_ := Aside0.mk (Kd.R_below (Kd.R_elderB (by (with_reducible repeat (first | apply Kd.R_alloc | apply Kd.R_drewN | apply Kd.R_drew)); exact HO_76.out) gb265 (Nat.le_of_eq hg.symm)) hb); have n1_ := Aside0.mk (blk_below (lb BK254.out) hb); have n2_ := Aside0.mk (below_step (lB HB.out) hb); have n3_ := Aside0.mk (hbox); have n4_ := gw hg (lB HB.out); have n5_ := gw hg (lB HB.out); have n6_ := na hg (lb BK254.out); have n7_ := nz hg (lb BK254.out); clear HO_76 BK254 HB; have HO_76 := n0_; have BK254 := n1_; have HB := n2_; have BK265 := n3_; have GW265 := n4_; have GE265 := n5_; have NB254_265 := n6_; have NB265_254 := n7_; clear n0_ n1_ n2_ n3_ n4_ n5_ n6_ n7_; clear hb hbox hg; have hnb123 := NB265_254.out; have hnc123 := NB254_265.out; have hcz124_0 : w122.cell? ⟨gb265, 0, none⟩ = some (.string (⟨#[]⟩ : ByteArray)) := (blk_cell BK265.out 0).trans rfl; have hcz124_1 : w122.cell? ⟨gb265, 1, none⟩ = some (.string (⟨#[]⟩ : ByteArray)) := (blk_cell BK265.out 1).trans rfl; have hfz124_0 := blk_frozen BK265.out 0; have hfz124_1 := blk_frozen BK265.out 1) | ((with_reducible refine gate_callee (f := 9) rfl ?_); refine goesL_ (some 85) rfl rfl Tryz.func9 (by kernel_rfl) rfl #[.agg #[.string ((rd_T25 t255 x78_2).f0), .string ((rd_T25 t255 x78_2).f1)], .int .i64 t253] rfl lm ?_; (with_reducible refine (impl_PowerPair.calls ((rd_T25 t255 x78_2).f0) ((rd_T25 t255 x78_2).f1) t253 t266 t267 false _ A27.out).mono ?_); rintro e w125 ⟨rfl, hb⟩; refine ⟨_, rfl, ?_⟩; have n0_ := Aside0.mk (Kd.R_below (by (with_reducible repeat (first | apply Kd.R_alloc | apply Kd.R_drewN | apply Kd.R_drew)); exact (Kd.R_mono (Kd.R_far (p := ⟨gb265, 1, none⟩) (Kd.R_far (p := ⟨gb265, 0, none⟩) (Kd.R_mono HO_76.out (fun k_ hk => (⟨hk, hk.2⟩ : _ ∧ k_ ≠ gb265))) (fun _ hk => hk.2) (.string ((rd_T25 t255 x78_2).f0))) (fun _ hk => hk.2) (.string ((rd_T25 t255 x78_2).f1))) (fun _ h_ => h_.1))) hb); have n1_ := Aside0.mk (blk_below (g := gb254) (o := .cells #[.string t251, .string t252] 25 (0, 0)) (by (with_reducible repeat (first | refine blk_drewN ?_ _ | refine blk_drew ?_ | refine blk_alloc ?_ _)); refine blk_far ?_ NB254_265.out _; (with_reducible repeat (first | refine blk_drewN ?_ _ | refine blk_drew ?_ | refine blk_alloc ?_ _)); refine blk_far ?_ NB254_265.out _; exact lb BK254.out) hb); have n2_ := Aside0.mk (blk_below (g := gb265) (o := .cells #[.string ((rd_T25 t255 x78_2).f0), .string ((rd_T25 t255 x78_2).f1)] 25 (0, 0)) (by (with_reducible repeat (first | refine blk_drewN ?_ _ | refine blk_drew ?_ | refine blk_alloc ?_ _)); refine blk_put (cs := #[.string ((rd_T25 t255 x78_2).f0), .string (⟨#[]⟩ : ByteArray)]) ?_ 1 _ rfl; (with_reducible repeat (first | refine blk_drewN ?_ _ | refine blk_drew ?_ | refine blk_alloc ?_ _)); refine blk_put (cs := #[.string (⟨#[]⟩ : ByteArray), .string (⟨#[]⟩ : ByteArray)]) ?_ 0 _ rfl; exact lb BK265.out) hb); have n3_ := Aside0.mk (below_step (lB HB.out) hb); clear HO_76 BK254 BK265 HB; have HO_76 := n0_; have BK254 := n1_; have BK265 := n2_; have HB := n3_; clear n0_ n1_ n2_ n3_; (try clear hb); (try clear hb2); (try clear hk); (try clear hi)) | ((with_reducible refine gate_dst (N := 13) rfl ?_); (try (refine gate_guard (by rfl) ?_; dsimp only)); refine box_event ?hg (N := 13) ?hd (cs := #[.string (⟨#[]⟩ : ByteArray), .string (⟨#[]⟩ : ByteArray)]) (t := 25) ?hr ?_; (case hd => rfl); (case hg => rfl); (case hr => exact lr); intro gb269 hg w126 hbox hb; have n0_ := Aside0.mk (Kd.R_below (Kd.R_elderB (by (with_reducible repeat (first | apply Kd.R_alloc | apply Kd.R_drewN | apply Kd.R_drew)); exact HO_76.out) gb269 (Nat.le_of_eq hg.symm)) hb); have n1_ := Aside0.mk (blk_below (lb BK254.out) hb); have n2_ := Aside0.mk (blk_below (lb BK265.out) hb); have n3_ := Aside0.mk (below_step (lB HB.out) hb); have n4_ := Aside0.mk (hbox); have n5_ := gw hg (lB HB.out); have n6_ := gw hg (lB HB.out); have n7_ := na hg (lb BK254.out); have n8_ := nz hg (lb BK254.out); have n9_ := na hg (lb BK265.out); have n10_ := nz hg (lb BK265.out); clear HO_76 BK254 BK265 HB; have HO_76 := n0_; have BK254 := n1_; have BK265 := n2_; have HB := n3_; have BK269 := n4_; have GW269 := n5_; have GE269 := n6_; have NB254_269 := n7_; have NB269_254 := n8_; have NB265_269 := n9_; have NB269_265 := n10_; clear n0_ n1_ n2_ n3_ n4_ n5_ n6_ n7_ n8_ n9_ n10_; clear hb hbox hg; have hnb127 := NB269_254.out; have hnc127 := NB254_269.out; have hnb128 := NB269_265.out; have hnc128 := NB265_269.out; have hcz129_0 : w126.cell? ⟨gb269, 0, none⟩ = some (.string (⟨#[]⟩ : ByteArray)) := (blk_cell BK269.out 0).trans rfl; have hcz129_1 : w126.cell? ⟨gb269, 1, none⟩ = some (.string (⟨#[]⟩ : ByteArray)) := (blk_cell BK269.out 1).trans rfl; have hfz129_0 := blk_frozen BK269.out 0; have hfz129_1 := blk_frozen BK269.out 1; have hcz130_0 : w126.cell? ⟨gb254, 0, none⟩ = some (.string t251) := (blk_cell BK254.out 0).trans rfl; have hcz130_1 : w126.cell? ⟨gb254, 1, none⟩ = some (.string t252) := (blk_cell BK254.out 1).trans rfl; have hfz130_0 := blk_frozen BK254.out 0; have hfz130_1 := blk_frozen BK254.out 1; have hcz131_0 : w126.cell? ⟨gb265, 0, none⟩ = some (.string ((rd_T25 t255 x78_2).f0)) := (blk_cell BK265.out 0).trans rfl; have hcz131_1 : w126.cell? ⟨gb265, 1, none⟩ = some (.string ((rd_T25 t255 x78_2).f1)) := (blk_cell BK265.out 1).trans rfl; have hfz131_0 := blk_frozen BK265.out 0; have hfz131_1 := blk_frozen BK265.out 1) | ((with_reducible refine gate_callee (f := 10) rfl ?_); refine goesL_ (some 91) rfl rfl Tryz.func10 (by kernel_rfl) rfl #[.agg #[.string t251, .string t252], .agg #[.string ((rd_T25 t255 x78_2).f0), .string ((rd_T25 t255 x78_2).f1)]] rfl lm ?_; (with_reducible refine (impl_ProductPair.calls t251 t252 ((rd_T25 t255 x78_2).f0) ((rd_T25 t255 x78_2).f1) t270 t271 false _ A28.out).mono ?_); rintro e w132 ⟨rfl, hb⟩; refine ⟨_, rfl, ?_⟩; have n0_ := Aside0.mk (Kd.R_below (by (with_reducible repeat (first | apply Kd.R_alloc | apply Kd.R_drewN | apply Kd.R_drew)); exact (Kd.R_mono (Kd.R_far (p := ⟨gb269, 1, none⟩) (Kd.R_far (p := ⟨gb269, 0, none⟩) (Kd.R_mono HO_76.out (fun k_ hk => (⟨hk, hk.2⟩ : _ ∧ k_ ≠ gb269))) (fun _ hk => hk.2) (.string t266)) (fun _ hk => hk.2) (.string t267)) (fun _ h_ => h_.1))) hb); have n1_ := Aside0.mk (blk_below (g := gb254) (o := .cells #[.string t251, .string t252] 25 (0, 0)) (by (with_reducible repeat (first | refine blk_drewN ?_ _ | refine blk_drew ?_ | refine blk_alloc ?_ _)); refine blk_far ?_ NB254_269.out _; (with_reducible repeat (first | refine blk_drewN ?_ _ | refine blk_drew ?_ | refine blk_alloc ?_ _)); refine blk_far ?_ NB254_269.out _; exact lb BK254.out) hb); have n2_ := Aside0.mk (blk_below (g := gb265) (o := .cells #[.string ((rd_T25 t255 x78_2).f0), .string ((rd_T25 t255 x78_2).f1)] 25 (0, 0)) (by (with_reducible repeat (first | refine blk_drewN ?_ _ | refine blk_drew ?_ | refine blk_alloc ?_ _)); refine blk_far ?_ NB265_269.out _; (with_reducible repeat (first | refine blk_drewN ?_ _ | refine blk_drew ?_ | refine blk_alloc ?_ _)); refine blk_far ?_ NB265_269.out _; exact lb BK265.out) hb); have n3_ := Aside0.mk (blk_below (g := gb269) (o := .cells #[.string t266, .string t267] 25 (0, 0)) (by (with_reducible repeat (first | refine blk_drewN ?_ _ | refine blk_drew ?_ | refine blk_alloc ?_ _)); refine blk_put (cs := #[.string t266, .string (⟨#[]⟩ : ByteArray)]) ?_ 1 _ rfl; (with_reducible repeat (first | refine blk_drewN ?_ _ | refine blk_drew ?_ | refine blk_alloc ?_ _)); refine blk_put (cs := #[.string (⟨#[]⟩ : ByteArray), .string (⟨#[]⟩ : ByteArray)]) ?_ 0 _ rfl; exact lb BK269.out) hb); have n4_ := Aside0.mk (below_step (lB HB.out) hb); clear HO_76 BK254 BK265 BK269 HB; have HO_76 := n0_; have BK254 := n1_; have BK265 := n2_; have BK269 := n3_; have HB := n4_; clear n0_ n1_ n2_ n3_ n4_; (try clear hb); (try clear hb2); (try clear hk); (try clear hi)) | ((with_reducible refine gate_dst (N := 15) rfl ?_); (try (refine gate_guard (by rfl) ?_; dsimp only)); refine box_event ?hg (N := 15) ?hd (cs := #[.string (⟨#[]⟩ : ByteArray), .string (⟨#[]⟩ : ByteArray)]) (t := 25) ?hr ?_; (case hd => rfl); (case hg => rfl); (case hr => exact lr); intro gb273 hg w133 hbox hb; have n0_ := Aside0.mk (Kd.R_below (Kd.R_elderB (by (with_reducible repeat (first | apply Kd.R_alloc | apply Kd.R_drewN | apply Kd.R_drew)); exact HO_76.out) gb273 (Nat.le_of_eq hg.symm)) hb); have n1_ := Aside0.mk (blk_below (lb BK254.out) hb); have n2_ := Aside0.mk (blk_below (lb BK265.out) hb); have n3_ := Aside0.mk (blk_below (lb BK269.out) hb); have n4_ := Aside0.mk (below_step (lB HB.out) hb); have n5_ := Aside0.mk (hbox); have n6_ := gw hg (lB HB.out); have n7_ := gw hg (lB HB.out); have n8_ := na hg (lb BK254.out); have n9_ := nz hg (lb BK254.out); have n10_ := na hg (lb BK265.out); have n11_ := nz hg (lb BK265.out); have n12_ := na hg (lb BK269.out); have n13_ := nz hg (lb BK269.out); clear HO_76 BK254 BK265 BK269 HB; have HO_76 := n0_; have BK254 := n1_; have BK265 := n2_; have BK269 := n3_; have HB := n4_; have BK273 := n5_; have GW273 := n6_; have GE273 := n7_; have NB254_273 := n8_; have NB273_254 := n9_; have NB265_273 := n10_; have NB273_265 := n11_; have NB269_273 := n12_; have NB273_269 := n13_; clear n0_ n1_ n2_ n3_ n4_ n5_ n6_ n7_ n8_ n9_ n10_ n11_ n12_ n13_; clear hb hbox hg; have hnb134 := NB273_254.out; have hnc134 := NB254_273.out; have hnb135 := NB273_265.out; have hnc135 := NB265_273.out; have hnb136 := NB273_269.out; have hnc136 := NB269_273.out; have hcz137_0 : w133.cell? ⟨gb273, 0, none⟩ = some (.string (⟨#[]⟩ : ByteArray)) := (blk_cell BK273.out 0).trans rfl; have hcz137_1 : w133.cell? ⟨gb273, 1, none⟩ = some (.string (⟨#[]⟩ : ByteArray)) := (blk_cell BK273.out 1).trans rfl; have hfz137_0 := blk_frozen BK273.out 0; have hfz137_1 := blk_frozen BK273.out 1; have hcz138_0 : w133.cell? ⟨gb265, 0, none⟩ = some (.string ((rd_T25 t255 x78_2).f0)) := (blk_cell BK265.out 0).trans rfl; have hcz138_1 : w133.cell? ⟨gb265, 1, none⟩ = some (.string ((rd_T25 t255 x78_2).f1)) := (blk_cell BK265.out 1).trans rfl; have hfz138_0 := blk_frozen BK265.out 0; have hfz138_1 := blk_frozen BK265.out 1; have hcz139_0 : w133.cell? ⟨gb254, 0, none⟩ = some (.string t251) := (blk_cell BK254.out 0).trans rfl; have hcz139_1 : w133.cell? ⟨gb254, 1, none⟩ = some (.string t252) := (blk_cell BK254.out 1).trans rfl; have hfz139_0 := blk_frozen BK254.out 0; have hfz139_1 := blk_frozen BK254.out 1) | ((with_reducible refine gate_callee (f := 10) rfl ?_); refine goesL_ (some 97) rfl rfl Tryz.func10 (by kernel_rfl) rfl #[.agg #[.string ((rd_T25 t255 x78_2).f0), .string ((rd_T25 t255 x78_2).f1)], .agg #[.string t251, .string t252]] rfl lm ?_; (with_reducible refine (impl_ProductPair.calls ((rd_T25 t255 x78_2).f0) ((rd_T25 t255 x78_2).f1) t251 t252 t274 t275 t276 _ A29.out).mono ?_); rintro e w140 ⟨rfl, hb⟩; refine ⟨_, rfl, ?_⟩; have n0_ := Aside0.mk (Kd.R_below (by (with_reducible repeat (first | apply Kd.R_alloc | apply Kd.R_drewN | apply Kd.R_drew)); exact (Kd.R_mono (Kd.R_far (p := ⟨gb273, 1, none⟩) (Kd.R_far (p := ⟨gb273, 0, none⟩) (Kd.R_mono HO_76.out (fun k_ hk => (⟨hk, hk.2⟩ : _ ∧ k_ ≠ gb273))) (fun _ hk => hk.2) (.string t270)) (fun _ hk => hk.2) (.string t271)) (fun _ h_ => h_.1))) hb); have n1_ := Aside0.mk (blk_below (g := gb254) (o := .cells #[.string t251, .string t252] 25 (0, 0)) (by (with_reducible repeat (first | refine blk_drewN ?_ _ | refine blk_drew ?_ | refine blk_alloc ?_ _)); refine blk_far ?_ NB254_273.out _; (with_reducible repeat (first | refine blk_drewN ?_ _ | refine blk_drew ?_ | refine blk_alloc ?_ _)); refine blk_far ?_ NB254_273.out _; exact lb BK254.out) hb); have n2_ := Aside0.mk (blk_below (g := gb265) (o := .cells #[.string ((rd_T25 t255 x78_2).f0), .string ((rd_T25 t255 x78_2).f1)] 25 (0, 0)) (by (with_reducible repeat (first | refine blk_drewN ?_ _ | refine blk_drew ?_ | refine blk_alloc ?_ _)); refine blk_far ?_ NB265_273.out _; (with_reducible repeat (first | refine blk_drewN ?_ _ | refine blk_drew ?_ | refine blk_alloc ?_ _)); refine blk_far ?_ NB265_273.out _; exact lb BK265.out) hb); have n3_ := Aside0.mk (blk_below (g := gb269) (o := .cells #[.string t266, .string t267] 25 (0, 0)) (by (with_reducible repeat (first | refine blk_drewN ?_ _ | refine blk_drew ?_ | refine blk_alloc ?_ _)); refine blk_far ?_ NB269_273.out _; (with_reducible repeat (first | refine blk_drewN ?_ _ | refine blk_drew ?_ | refine blk_alloc ?_ _)); refine blk_far ?_ NB269_273.out _; exact lb BK269.out) hb); have n4_ := Aside0.mk (blk_below (g := gb273) (o := .cells #[.string t270, .string t271] 25 (0, 0)) (by (with_reducible repeat (first | refine blk_drewN ?_ _ | refine blk_drew ?_ | refine blk_alloc ?_ _)); refine blk_put (cs := #[.string t270, .string (⟨#[]⟩ : ByteArray)]) ?_ 1 _ rfl; (with_reducible repeat (first | refine blk_drewN ?_ _ | refine blk_drew ?_ | refine blk_alloc ?_ _)); refine blk_put (cs := #[.string (⟨#[]⟩ : ByteArray), .string (⟨#[]⟩ : ByteArray)]) ?_ 0 _ rfl; exact lb BK273.out) hb); have n5_ := Aside0.mk (below_step (lB HB.out) hb); clear HO_76 BK254 BK265 BK269 BK273 HB; have HO_76 := n0_; have BK254 := n1_; have BK265 := n2_; have BK269 := n3_; have BK273 := n4_; have HB := n5_; clear n0_ n1_ n2_ n3_ n4_ n5_; (try clear hb); (try clear hb2); (try clear hk); (try clear hi)) | ((with_reducible refine gate_dst (N := 17) rfl ?_); (try (refine gate_guard (by rfl) ?_; dsimp only)); refine box_event ?hg (N := 17) ?hd (cs := #[.string (⟨#[]⟩ : ByteArray), .string (⟨#[]⟩ : ByteArray)]) (t := 25) ?hr ?_; (case hd => rfl); (case hg => rfl); (case hr => exact lr); intro gb277 hg w141 hbox hb; have n0_ := Aside0.mk (Kd.R_below (Kd.R_elderB (by (with_reducible repeat (first | apply Kd.R_alloc | apply Kd.R_drewN | apply Kd.R_drew)); exact HO_76.out) gb277 (Nat.le_of_eq hg.symm)) hb); have n1_ := Aside0.mk (blk_below (lb BK254.out) hb); have n2_ := Aside0.mk (blk_below (lb BK265.out) hb); have n3_ := Aside0.mk (blk_below (lb BK269.out) hb); have n4_ := Aside0.mk (blk_below (lb BK273.out) hb); have n5_ := Aside0.mk (below_step (lB HB.out) hb); have n6_ := Aside0.mk (hbox); have n7_ := gw hg (lB HB.out); have n8_ := gw hg (lB HB.out); have n9_ := na hg (lb BK254.out); have n10_ := nz hg (lb BK254.out); have n11_ := na hg (lb BK265.out); have n12_ := nz hg (lb BK265.out); have n13_ := na hg (lb BK269.out); have n14_ := nz hg (lb BK269.out); have n15_ := na hg (lb BK273.out); have n16_ := nz hg (lb BK273.out); clear HO_76 BK254 BK265 BK269 BK273 HB; have HO_76 := n0_; have BK254 := n1_; have BK265 := n2_; have BK269 := n3_; have BK273 := n4_; have HB := n5_; have BK277 := n6_; have GW277 := n7_; have GE277 := n8_; have NB254_277 := n9_; have NB277_254 := n10_; have NB265_277 := n11_; have NB277_265 := n12_; have NB269_277 := n13_; have NB277_269 := n14_; have NB273_277 := n15_; have NB277_273 := n16_; clear n0_ n1_ n2_ n3_ n4_ n5_ n6_ n7_ n8_ n9_ n10_ n11_ n12_ n13_ n14_ n15_ n16_; clear hb hbox hg; have hnb142 := NB277_254.out; have hnc142 := NB254_277.out; have hnb143 := NB277_265.out; have hnc143 := NB265_277.out; have hnb144 := NB277_269.out; have hnc144 := NB269_277.out; have hnb145 := NB277_273.out; have hnc145 := NB273_277.out; have hcz146_0 : w141.cell? ⟨gb277, 0, none⟩ = some (.string (⟨#[]⟩ : ByteArray)) := (blk_cell BK277.out 0).trans rfl; have hcz146_1 : w141.cell? ⟨gb277, 1, none⟩ = some (.string (⟨#[]⟩ : ByteArray)) := (blk_cell BK277.out 1).trans rfl; have hfz146_0 := blk_frozen BK277.out 0; have hfz146_1 := blk_frozen BK277.out 1))
                  have n0_ : Aside0 (Kd.R k25 25 ((w141.setCell ⟨gb277, 0, none⟩ (.string t274)).setCell ⟨gb277, 1, none⟩ (.string t275)) w.heap.size (fun k_ => k_ ≠ gb254 ∧ k_ ≠ gb265 ∧ k_ ≠ gb269 ∧ k_ ≠ gb273 ∧ k_ ≠ gb277) (.slice (some ad264) t255.length co23) t255) := ⟨by (with_reducible repeat (first | apply Kd.R_alloc | apply Kd.R_drewN | apply Kd.R_drew)); exact Kd.R_mono (Kd.R_far (p := ⟨gb277, 1, none⟩) (Kd.R_far (p := ⟨gb277, 0, none⟩) (Kd.R_mono HO_76.out (fun k_ hk => (⟨hk, hk.2⟩ : _ ∧ k_ ≠ gb277))) (fun _ hk => hk.2) (.string t274)) (fun _ hk => hk.2) (.string t275)) (fun _ hk => ⟨hk.1.1.1.1.1, ⟨hk.1.1.1.1.2, ⟨hk.1.1.1.2, ⟨hk.1.1.2, hk.1.2⟩⟩⟩⟩)⟩
                  have n1_ : Aside0 (((w141.setCell ⟨gb277, 0, none⟩ (.string t274)).setCell ⟨gb277, 1, none⟩ (.string t275)).heap[gb254]? = some (.cells #[.string t251, .string t252] 25 (0, 0))) := ⟨by (with_reducible repeat (first | refine blk_drewN ?_ _ | refine blk_drew ?_ | refine blk_alloc ?_ _)); refine blk_far ?_ NB254_277.out _; (with_reducible repeat (first | refine blk_drewN ?_ _ | refine blk_drew ?_ | refine blk_alloc ?_ _)); refine blk_far ?_ NB254_277.out _; exact lb BK254.out⟩
                  have n2_ : Aside0 (((w141.setCell ⟨gb277, 0, none⟩ (.string t274)).setCell ⟨gb277, 1, none⟩ (.string t275)).heap[gb265]? = some (.cells #[.string ((rd_T25 t255 x78_2).f0), .string ((rd_T25 t255 x78_2).f1)] 25 (0, 0))) := ⟨by (with_reducible repeat (first | refine blk_drewN ?_ _ | refine blk_drew ?_ | refine blk_alloc ?_ _)); refine blk_far ?_ NB265_277.out _; (with_reducible repeat (first | refine blk_drewN ?_ _ | refine blk_drew ?_ | refine blk_alloc ?_ _)); refine blk_far ?_ NB265_277.out _; exact lb BK265.out⟩
                  have n3_ : Aside0 (((w141.setCell ⟨gb277, 0, none⟩ (.string t274)).setCell ⟨gb277, 1, none⟩ (.string t275)).heap[gb269]? = some (.cells #[.string t266, .string t267] 25 (0, 0))) := ⟨by (with_reducible repeat (first | refine blk_drewN ?_ _ | refine blk_drew ?_ | refine blk_alloc ?_ _)); refine blk_far ?_ NB269_277.out _; (with_reducible repeat (first | refine blk_drewN ?_ _ | refine blk_drew ?_ | refine blk_alloc ?_ _)); refine blk_far ?_ NB269_277.out _; exact lb BK269.out⟩
                  have n4_ : Aside0 (((w141.setCell ⟨gb277, 0, none⟩ (.string t274)).setCell ⟨gb277, 1, none⟩ (.string t275)).heap[gb273]? = some (.cells #[.string t270, .string t271] 25 (0, 0))) := ⟨by (with_reducible repeat (first | refine blk_drewN ?_ _ | refine blk_drew ?_ | refine blk_alloc ?_ _)); refine blk_far ?_ NB273_277.out _; (with_reducible repeat (first | refine blk_drewN ?_ _ | refine blk_drew ?_ | refine blk_alloc ?_ _)); refine blk_far ?_ NB273_277.out _; exact lb BK273.out⟩
                  have n5_ : Aside0 (((w141.setCell ⟨gb277, 0, none⟩ (.string t274)).setCell ⟨gb277, 1, none⟩ (.string t275)).heap[gb277]? = some (.cells #[.string t274, .string t275] 25 (0, 0))) := ⟨by (with_reducible repeat (first | refine blk_drewN ?_ _ | refine blk_drew ?_ | refine blk_alloc ?_ _)); refine blk_put (cs := #[.string t274, .string (⟨#[]⟩ : ByteArray)]) ?_ 1 _ rfl; (with_reducible repeat (first | refine blk_drewN ?_ _ | refine blk_drew ?_ | refine blk_alloc ?_ _)); refine blk_put (cs := #[.string (⟨#[]⟩ : ByteArray), .string (⟨#[]⟩ : ByteArray)]) ?_ 0 _ rfl; exact lb BK277.out⟩
                  have n6_ : Aside0 (Below w.heap.size w ((w141.setCell ⟨gb277, 0, none⟩ (.string t274)).setCell ⟨gb277, 1, none⟩ (.string t275))) := ⟨by exact lB HB.out⟩
                  (try clear HO_76)
                  (try clear BK254)
                  (try clear BK265)
                  (try clear BK269)
                  (try clear BK273)
                  (try clear BK277)
                  (try clear HB)
                  generalize ((w141.setCell ⟨gb277, 0, none⟩ (.string t274)).setCell ⟨gb277, 1, none⟩ (.string t275)) = w147 at n0_ n1_ n2_ n3_ n4_ n5_ n6_ ⊢
                  have HO_76 := n0_
                  have BK254 := n1_
                  have BK265 := n2_
                  have BK269 := n3_
                  have BK273 := n4_
                  have BK277 := n5_
                  have HB := n6_
                  clear n0_ n1_ n2_ n3_ n4_ n5_ n6_
                  have n0_ := Aside0.mk (Kd.R_drew HO_76.out)
                  have n1_ := Aside0.mk (blk_drew BK254.out)
                  have n2_ := Aside0.mk (blk_drew BK265.out)
                  have n3_ := Aside0.mk (blk_drew BK269.out)
                  have n4_ := Aside0.mk (blk_drew BK273.out)
                  have n5_ := Aside0.mk (blk_drew BK277.out)
                  have n6_ := Aside0.mk (below_drew1 HB.out)
                  clear HO_76
                  clear BK254
                  clear BK265
                  clear BK269
                  clear BK273
                  clear BK277
                  clear HB
                  have HO_76 := n0_
                  have BK254 := n1_
                  have BK265 := n2_
                  have BK269 := n3_
                  have BK273 := n4_
                  have BK277 := n5_
                  have HB := n6_
                  clear n0_ n1_ n2_ n3_ n4_ n5_ n6_
                  refine start_ (n := 20) (S := fun w' => True) (ds := []) #[false, false, false, false, false, false, false, false, false, false, false, false, false, false, false, false, false, false, false, false] (by kernel_rfl) rfl rfl trivial (fun hHeld => ?_); refine with_tabW laws_FnRootsAndCentres.tab14 laws_FnRootsAndCentres.bits14 (fun HT_ HW_ => ?_)
                  generalize w147.drew = w148 at HO_76 BK254 BK265 BK269 BK273 BK277 HB hHeld ⊢
                  refine pure_ (i := 0) (N := some 100) (v := ?_) (a' := ?_) #[true, false, false, false, false, false, false, false, false, false, false, false, false, false, false, false, false, false, false, false] rfl rfl (any_of HT_.out (by kernel_rfl)) (fun _ _ _ h => h) (Or.inl ⟨by rfl, ?_⟩) ?_ ?_
                  rotate_left
                  · intro w'
                    go_simp
                    with_reducible rfl
                  rotate_left
                  · simp only [Act.put, List.setIfInBounds_toArray, List.set_cons_zero, List.set_cons_succ, i64_w, i32_w]
                    rfl
                  refine pure_ (i := 1) (N := some 101) (v := ?_) (a' := ?_) #[true, true, false, false, false, false, false, false, false, false, false, false, false, false, false, false, false, false, false, false] rfl rfl (any_of HT_.out (by kernel_rfl)) (fun _ _ _ h => h) (Or.inl ⟨by rfl, ?_⟩) ?_ ?_
                  rotate_left
                  · intro w'
                    go_simp
                    with_reducible rfl
                  rotate_left
                  · simp only [Act.put, List.setIfInBounds_toArray, List.set_cons_zero, List.set_cons_succ, i64_w, i32_w]
                    rfl
                  refine pure_ (i := 2) (N := some 102) (v := undef) (a' := ?_) #[true, true, true, false, false, false, false, false, false, false, false, false, false, false, false, false, false, false, false, false] rfl rfl (any_of HT_.out (by kernel_rfl)) (fun _ _ _ h => h) (Or.inr ⟨by rfl, rfl⟩) ?_ ?_
                  rotate_left
                  · simp only [Act.put, List.setIfInBounds_toArray, List.set_cons_zero, List.set_cons_succ, i64_w, i32_w]
                    rfl
                  refine pure_ (i := 3) (N := some 103) (v := undef) (a' := ?_) #[true, true, true, true, false, false, false, false, false, false, false, false, false, false, false, false, false, false, false, false] rfl rfl (any_of HT_.out (by kernel_rfl)) (fun _ _ _ h => h) (Or.inr ⟨by rfl, rfl⟩) ?_ ?_
                  rotate_left
                  · simp only [Act.put, List.setIfInBounds_toArray, List.set_cons_zero, List.set_cons_succ, i64_w, i32_w]
                    rfl
                  refine pure_ (i := 4) (N := some 104) (v := undef) (a' := ?_) #[true, true, true, true, true, false, false, false, false, false, false, false, false, false, false, false, false, false, false, false] rfl rfl (any_of HT_.out (by kernel_rfl)) (fun _ _ _ h => h) (Or.inr ⟨by rfl, rfl⟩) ?_ ?_
                  rotate_left
                  · simp only [Act.put, List.setIfInBounds_toArray, List.set_cons_zero, List.set_cons_succ, i64_w, i32_w]
                    rfl
                  refine pure_ (i := 5) (N := some 105) (v := undef) (a' := ?_) #[true, true, true, true, true, true, false, false, false, false, false, false, false, false, false, false, false, false, false, false] rfl rfl (any_of HT_.out (by kernel_rfl)) (fun _ _ _ h => h) (Or.inr ⟨by rfl, rfl⟩) ?_ ?_
                  rotate_left
                  · simp only [Act.put, List.setIfInBounds_toArray, List.set_cons_zero, List.set_cons_succ, i64_w, i32_w]
                    rfl
                  refine pure_ (i := 6) (N := some 106) (v := ?_) (a' := ?_) #[true, true, true, true, true, true, true, false, false, false, false, false, false, false, false, false, false, false, false, false] rfl rfl (any_of HT_.out (by kernel_rfl)) (fun _ _ _ h => h) (Or.inl ⟨by rfl, ?_⟩) ?_ ?_
                  rotate_left
                  · intro w'
                    go_simp
                    with_reducible rfl
                  rotate_left
                  · simp only [Act.put, List.setIfInBounds_toArray, List.set_cons_zero, List.set_cons_succ, i64_w, i32_w]
                    rfl
                  refine pure_ (i := 7) (N := some 107) (v := ?_) (a' := ?_) #[true, true, true, true, true, true, true, true, false, false, false, false, false, false, false, false, false, false, false, false] rfl rfl (any_of HT_.out (by kernel_rfl)) (fun _ _ _ h => h) (Or.inl ⟨by rfl, ?_⟩) ?_ ?_
                  rotate_left
                  · intro w'
                    go_simp
                    with_reducible rfl
                  rotate_left
                  · simp only [Act.put, List.setIfInBounds_toArray, List.set_cons_zero, List.set_cons_succ, i64_w, i32_w]
                    rfl
                  refine pure_ (i := 8) (N := some 108) (v := ?_) (a' := ?_) #[true, true, true, true, true, true, true, true, true, false, false, false, false, false, false, false, false, false, false, false] rfl rfl (any_of HT_.out (by kernel_rfl)) (fun _ _ _ h => h) (Or.inl ⟨by rfl, ?_⟩) ?_ ?_
                  rotate_left
                  · intro w'
                    go_simp
                    with_reducible rfl
                  rotate_left
                  · simp only [Act.put, List.setIfInBounds_toArray, List.set_cons_zero, List.set_cons_succ, i64_w, i32_w]
                    rfl
                  refine pure_ (i := 9) (N := some 109) (v := ?_) (a' := ?_) #[true, true, true, true, true, true, true, true, true, true, false, false, false, false, false, false, false, false, false, false] rfl rfl (any_of HT_.out (by kernel_rfl)) (fun _ _ _ h => h) (Or.inl ⟨by rfl, ?_⟩) ?_ ?_
                  rotate_left
                  · intro w'
                    go_simp
                    with_reducible rfl
                  rotate_left
                  · simp only [Act.put, List.setIfInBounds_toArray, List.set_cons_zero, List.set_cons_succ, i64_w, i32_w]
                    rfl
                  refine pure_ (i := 10) (N := some 110) (v := ?_) (a' := ?_) #[true, true, true, true, true, true, true, true, true, true, true, false, false, false, false, false, false, false, false, false] rfl rfl (any_of HT_.out (by kernel_rfl)) (fun _ _ _ h => h) (Or.inl ⟨by rfl, ?_⟩) ?_ ?_
                  rotate_left
                  · intro w'
                    go_simp
                    with_reducible rfl
                  rotate_left
                  · simp only [Act.put, List.setIfInBounds_toArray, List.set_cons_zero, List.set_cons_succ, i64_w, i32_w]
                    rfl
                  refine pure_ (i := 11) (N := some 111) (v := ?_) (a' := ?_) #[true, true, true, true, true, true, true, true, true, true, true, true, false, false, false, false, false, false, false, false] rfl rfl (any_of HT_.out (by kernel_rfl)) (fun _ _ _ h => h) (Or.inl ⟨by rfl, ?_⟩) ?_ ?_
                  rotate_left
                  · intro w'
                    go_simp
                    with_reducible rfl
                  rotate_left
                  · simp only [Act.put, List.setIfInBounds_toArray, List.set_cons_zero, List.set_cons_succ, i64_w, i32_w]
                    rfl
                  refine pure_ (i := 12) (N := some 112) (v := ?_) (a' := ?_) #[true, true, true, true, true, true, true, true, true, true, true, true, true, false, false, false, false, false, false, false] rfl rfl (any_of HT_.out (by kernel_rfl)) (fun _ _ _ h => h) (Or.inl ⟨by rfl, ?_⟩) ?_ ?_
                  rotate_left
                  · intro w'
                    go_simp
                    with_reducible rfl
                  rotate_left
                  · simp only [Act.put, List.setIfInBounds_toArray, List.set_cons_zero, List.set_cons_succ, i64_w, i32_w]
                    rfl
                  refine pure_ (i := 13) (N := some 113) (v := ?_) (a' := ?_) #[true, true, true, true, true, true, true, true, true, true, true, true, true, true, false, false, false, false, false, false] rfl rfl (any_of HT_.out (by kernel_rfl)) (fun _ _ _ h => h) (Or.inl ⟨by rfl, ?_⟩) ?_ ?_
                  rotate_left
                  · intro w'
                    go_simp
                    with_reducible rfl
                  rotate_left
                  · simp only [Act.put, List.setIfInBounds_toArray, List.set_cons_zero, List.set_cons_succ, i64_w, i32_w]
                    rfl
                  refine pure_ (i := 14) (N := some 114) (v := ?_) (a' := ?_) #[true, true, true, true, true, true, true, true, true, true, true, true, true, true, true, false, false, false, false, false] rfl rfl (any_of HT_.out (by kernel_rfl)) (fun _ _ _ h => h) (Or.inl ⟨by rfl, ?_⟩) ?_ ?_
                  rotate_left
                  · intro w'
                    go_simp
                    with_reducible rfl
                  rotate_left
                  · simp only [Act.put, List.setIfInBounds_toArray, List.set_cons_zero, List.set_cons_succ, i64_w, i32_w]
                    rfl
                  refine pure_ (i := 15) (N := some 115) (v := undef) (a' := ?_) #[true, true, true, true, true, true, true, true, true, true, true, true, true, true, true, true, false, false, false, false] rfl rfl (any_of HT_.out (by kernel_rfl)) (fun _ _ _ h => h) (Or.inr ⟨by rfl, rfl⟩) ?_ ?_
                  rotate_left
                  · simp only [Act.put, List.setIfInBounds_toArray, List.set_cons_zero, List.set_cons_succ, i64_w, i32_w]
                    rfl
                  refine pure_ (i := 16) (N := some 116) (v := undef) (a' := ?_) #[true, true, true, true, true, true, true, true, true, true, true, true, true, true, true, true, true, false, false, false] rfl rfl (any_of HT_.out (by kernel_rfl)) (fun _ _ _ h => h) (Or.inr ⟨by rfl, rfl⟩) ?_ ?_
                  rotate_left
                  · simp only [Act.put, List.setIfInBounds_toArray, List.set_cons_zero, List.set_cons_succ, i64_w, i32_w]
                    rfl
                  refine pure_ (i := 17) (N := some 117) (v := undef) (a' := ?_) #[true, true, true, true, true, true, true, true, true, true, true, true, true, true, true, true, true, true, false, false] rfl rfl (any_of HT_.out (by kernel_rfl)) (fun _ _ _ h => h) (Or.inr ⟨by rfl, rfl⟩) ?_ ?_
                  rotate_left
                  · simp only [Act.put, List.setIfInBounds_toArray, List.set_cons_zero, List.set_cons_succ, i64_w, i32_w]
                    rfl
                  refine pure_ (i := 18) (N := some 118) (v := ?_) (a' := ?_) #[true, true, true, true, true, true, true, true, true, true, true, true, true, true, true, true, true, true, true, false] rfl rfl (any_of HT_.out (by kernel_rfl)) (fun _ _ _ h => h) (Or.inl ⟨by rfl, ?_⟩) ?_ ?_
                  rotate_left
                  · intro w'
                    go_simp
                    with_reducible rfl
                  rotate_left
                  · simp only [Act.put, List.setIfInBounds_toArray, List.set_cons_zero, List.set_cons_succ, i64_w, i32_w]
                    rfl
                  refine pure_ (i := 19) (N := some 119) (v := ?_) (a' := ?_) #[true, true, true, true, true, true, true, true, true, true, true, true, true, true, true, true, true, true, true, true] rfl rfl (any_of HT_.out (by kernel_rfl)) (fun _ _ _ h => h) (Or.inl ⟨by rfl, ?_⟩) ?_ ?_
                  rotate_left
                  · intro w'
                    go_simp
                    with_reducible rfl
                  rotate_left
                  · simp only [Act.put, List.setIfInBounds_toArray, List.set_cons_zero, List.set_cons_succ, i64_w, i32_w]
                    rfl
                  refine done_ (done_of HT_.out (by kernel_rfl)) ?_
                  try go_wp2
                  go_roundg k2
                  case measure => have := HJ7.out; have := HK2.out; omega
                  case rel => exact ⟨(wrap64 (x78_2 + 1)), (by first | rfl | (simp; done) | (simp [*]; done)), H', ⟨by have := HJ7.out; have := HK2.out; omega⟩, ⟨by (with_reducible repeat (first | apply Kd.R_alloc | apply Kd.R_drewN | apply Kd.R_drew)); exact Kd.R_mono HO_76.out (fun _ hk => hk.1)⟩, ⟨lb BK254.out⟩, ⟨by exact lB HB.out⟩⟩
          · rw [if_neg c26] at H
            exact absurd H (by simp)
        · rw [if_neg c25] at H
          exact absurd H (by simp)
      · rw [if_neg c24] at H
        have c24b0 : decide (x78_2 < (t255.length : Int)) = false := decide_eq_false c24
        clear c24
        replace H := Option.bind_eq_some_iff.mp H
        obtain ⟨⟨t280, t281, t282⟩, A1490, H⟩ := H
        replace H : ((impl_CommutingWith.f t280 t281 t282).bind fun bt284 => ((spec_CommutingWith.f t280 t281 t282).bind fun bt288 => (if (bt284.2 != bt288.2) = true then (laws_FnRootsAndCentres.j2 k2 l1 t282 bt284.1 bt284.2 true t280 t281) else ((laws_nPairs.f k2 bt284.1 bt288.1).bind fun t292 => (laws_FnRootsAndCentres.j2 k2 l1 t282 bt284.1 bt284.2 (!t292) t280 t281))))) = some r := H
        have A149 := Aside0.mk A1490
        clear A1490
        replace H := Option.bind_eq_some_iff.mp H
        obtain ⟨⟨t284, t287⟩, A1500, H⟩ := H
        replace H : ((spec_CommutingWith.f t280 t281 t282).bind fun bt288 => (if (t287 != bt288.2) = true then (laws_FnRootsAndCentres.j2 k2 l1 t282 t284 t287 true t280 t281) else ((laws_nPairs.f k2 t284 bt288.1).bind fun t292 => (laws_FnRootsAndCentres.j2 k2 l1 t282 t284 t287 (!t292) t280 t281)))) = some r := H
        have A150 := Aside0.mk A1500
        clear A1500
        replace H := Option.bind_eq_some_iff.mp H
        obtain ⟨⟨t288, t291⟩, A1510, H⟩ := H
        replace H : (if (t287 != t291) = true then (laws_FnRootsAndCentres.j2 k2 l1 t282 t284 t287 true t280 t281) else ((laws_nPairs.f k2 t284 t288).bind fun t292 => (laws_FnRootsAndCentres.j2 k2 l1 t282 t284 t287 (!t292) t280 t281))) = some r := H
        have A151 := Aside0.mk A1510
        clear A1510
        have HC152 := Aside0.mk H
        clear H
        go_upto_region 20 with (first | ((with_reducible refine gate_callee (f := 12) rfl ?_); refine goesL_ (some 123) rfl rfl Tryz.func12 (by kernel_rfl) rfl #[.slice A1 l1.length c1] rfl lm ?_; (with_reducible refine (spec_DrawCommutingWith.calls k2 _ _ l1 t280 t281 t282 _ ?side1 ?side2 A149.out).mono ?_); (case side1 => repeat (first | exact (Kd.C_below HR1.out HB.out) | (with_reducible refine Kd.C_alloc ?_ _) | (with_reducible refine Kd.C_drewN ?_ _) | (with_reducible refine Kd.C_drew ?_))); (case side2 => exact HC1.out); rintro e w153 ⟨rfl, hb⟩; refine ⟨_, rfl, ?_⟩; have n0_ := Aside0.mk (Kd.R_below (by (with_reducible repeat (first | apply Kd.R_alloc | apply Kd.R_drewN | apply Kd.R_drew)); exact HO_76.out) hb); have n1_ := Aside0.mk (blk_below (lb BK254.out) hb); have n2_ := Aside0.mk (below_step (lB HB.out) hb); clear HO_76 BK254 HB; have HO_76 := n0_; have BK254 := n1_; have HB := n2_; clear n0_ n1_ n2_; (try clear hb); (try clear hb2); (try clear hk); (try clear hi)) | ((with_reducible refine gate_dst (N := 19) rfl ?_); (try (refine gate_guard (by rfl) ?_; dsimp only)); refine box_event ?hg (N := 19) ?hd (cs := #[.string (⟨#[]⟩ : ByteArray), .string (⟨#[]⟩ : ByteArray)]) (t := 25) ?hr ?_; (case hd => rfl); (case hg => rfl); (case hr => exact lr); intro gb283 hg w154 hbox hb; have n0_ := Aside0.mk (Kd.R_below (Kd.R_elderB (by (with_reducible repeat (first | apply Kd.R_alloc | apply Kd.R_drewN | apply Kd.R_drew)); exact HO_76.out) gb283 (Nat.le_of_eq hg.symm)) hb); have n1_ := Aside0.mk (blk_below (lb BK254.out) hb); have n2_ := Aside0.mk (below_step (lB HB.out) hb); have n3_ := Aside0.mk (hbox); have n4_ := gw hg (lB HB.out); have n5_ := gw hg (lB HB.out); have n6_ := na hg (lb BK254.out); have n7_ := nz hg (lb BK254.out); clear HO_76 BK254 HB; have HO_76 := n0_; have BK254 := n1_; have HB := n2_; have BK283 := n3_; have GW283 := n4_; have GE283 := n5_; have NB254_283 := n6_; have NB283_254 := n7_; clear n0_ n1_ n2_ n3_ n4_ n5_ n6_ n7_; clear hb hbox hg; have hnb155 := NB283_254.out; have hnc155 := NB254_283.out; have hcz156_0 : w154.cell? ⟨gb283, 0, none⟩ = some (.string (⟨#[]⟩ : ByteArray)) := (blk_cell BK283.out 0).trans rfl; have hcz156_1 : w154.cell? ⟨gb283, 1, none⟩ = some (.string (⟨#[]⟩ : ByteArray)) := (blk_cell BK283.out 1).trans rfl; have hfz156_0 := blk_frozen BK283.out 0; have hfz156_1 := blk_frozen BK283.out 1) | ((with_reducible refine gate_callee (f := 13) rfl ?_); refine goesL_ (some 129) rfl rfl Tryz.func13 (by kernel_rfl) rfl #[.agg #[.string t280, .string t281], .int .i64 t282] rfl lm ?_; (with_reducible refine (impl_CommutingWith.calls t280 t281 t282 t284 t287 _ A150.out).mono ?_); rintro e w157 ⟨v285, rfl, ho0, hb⟩; refine ⟨_, rfl, ?_⟩; have n0_ := Aside0.mk (Kd.R_elder' (by (with_reducible repeat (first | apply Kd.R_alloc | apply Kd.R_drewN | apply Kd.R_drew)); exact (Kd.R_mono (Kd.R_far (p := ⟨gb283, 1, none⟩) (Kd.R_far (p := ⟨gb283, 0, none⟩) (Kd.R_mono HO_76.out (fun k_ hk => (⟨hk, hk.2⟩ : _ ∧ k_ ≠ gb283))) (fun _ hk => hk.2) (.string t280)) (fun _ hk => hk.2) (.string t281)) (fun _ h_ => h_.1))) (Kd.R_base ho0) hb); have n1_ := Aside0.mk (Kd.R_lower (Kd.R_newB (Kd.R_newB (Kd.R_new' ho0 (Kd.R_lt (by (with_reducible repeat (first | apply Kd.R_alloc | apply Kd.R_drewN | apply Kd.R_drew)); exact (Kd.R_mono (Kd.R_far (p := ⟨gb283, 1, none⟩) (Kd.R_far (p := ⟨gb283, 0, none⟩) (Kd.R_mono HO_76.out (fun k_ hk => (⟨hk, hk.2⟩ : _ ∧ k_ ≠ gb283))) (fun _ hk => hk.2) (.string t280)) (fun _ hk => hk.2) (.string t281)) (fun _ h_ => h_.1))))) (g := gb254) (o := .cells #[.string t251, .string t252] 25 (0, 0)) (by (with_reducible repeat (first | refine blk_drewN ?_ _ | refine blk_drew ?_ | refine blk_alloc ?_ _)); refine blk_far ?_ NB254_283.out _; (with_reducible repeat (first | refine blk_drewN ?_ _ | refine blk_drew ?_ | refine blk_alloc ?_ _)); refine blk_far ?_ NB254_283.out _; exact lb BK254.out)) (g := gb283) (o := .cells #[.string t280, .string t281] 25 (0, 0)) (by (with_reducible repeat (first | refine blk_drewN ?_ _ | refine blk_drew ?_ | refine blk_alloc ?_ _)); refine blk_put (cs := #[.string t280, .string (⟨#[]⟩ : ByteArray)]) ?_ 1 _ rfl; (with_reducible repeat (first | refine blk_drewN ?_ _ | refine blk_drew ?_ | refine blk_alloc ?_ _)); refine blk_put (cs := #[.string (⟨#[]⟩ : ByteArray), .string (⟨#[]⟩ : ByteArray)]) ?_ 0 _ rfl; exact lb BK283.out)) (below_size (lB HB.out))); have n2_ := Aside0.mk (blk_below (g := gb254) (o := .cells #[.string t251, .string t252] 25 (0, 0)) (by (with_reducible repeat (first | refine blk_drewN ?_ _ | refine blk_drew ?_ | refine blk_alloc ?_ _)); refine blk_far ?_ NB254_283.out _; (with_reducible repeat (first | refine blk_drewN ?_ _ | refine blk_drew ?_ | refine blk_alloc ?_ _)); refine blk_far ?_ NB254_283.out _; exact lb BK254.out) hb); have n3_ := Aside0.mk (blk_below (g := gb283) (o := .cells #[.string t280, .string t281] 25 (0, 0)) (by (with_reducible repeat (first | refine blk_drewN ?_ _ | refine blk_drew ?_ | refine blk_alloc ?_ _)); refine blk_put (cs := #[.string t280, .string (⟨#[]⟩ : ByteArray)]) ?_ 1 _ rfl; (with_reducible repeat (first | refine blk_drewN ?_ _ | refine blk_drew ?_ | refine blk_alloc ?_ _)); refine blk_put (cs := #[.string (⟨#[]⟩ : ByteArray), .string (⟨#[]⟩ : ByteArray)]) ?_ 0 _ rfl; exact lb BK283.out) hb); have n4_ := Aside0.mk (below_step (lB HB.out) hb); clear HO_76 BK254 BK283 HB; have HO_76 := n0_; have HO286 := n1_; have BK254 := n2_; have BK283 := n3_; have HB := n4_; clear n0_ n1_ n2_ n3_ n4_; (try clear hb); (try clear hb2); (try clear hk); (try clear hi); (try clear ho0); have hcz158_0 : w157.cell? ⟨gb283, 0, none⟩ = some (.string t280) := (blk_cell BK283.out 0).trans rfl; have hcz158_1 : w157.cell? ⟨gb283, 1, none⟩ = some (.string t281) := (blk_cell BK283.out 1).trans rfl; have hfz158_0 := blk_frozen BK283.out 0; have hfz158_1 := blk_frozen BK283.out 1) | ((with_reducible refine gate_callee (f := 14) rfl ?_); refine goesL_ (some 135) rfl rfl Tryz.func14 (by kernel_rfl) rfl #[.agg #[.string t280, .string t281], .int .i64 t282] rfl lm ?_; (with_reducible refine (spec_CommutingWith.calls t280 t281 t282 t288 t291 _ A151.out).mono ?_); rintro e w159 ⟨v289, rfl, ho0, hb⟩; refine ⟨_, rfl, ?_⟩; have n0_ := Aside0.mk (Kd.R_elder' (by (with_reducible repeat (first | apply Kd.R_alloc | apply Kd.R_drewN | apply Kd.R_drew)); exact HO_76.out) (Kd.R_base ho0) hb); have n1_ := Aside0.mk (Kd.R_elder' (by (with_reducible repeat (first | apply Kd.R_alloc | apply Kd.R_drewN | apply Kd.R_drew)); exact HO286.out) (Kd.R_base ho0) hb); have n2_ := Aside0.mk (Kd.R_lower (Kd.R_newB (Kd.R_newB (Kd.R_new' (Kd.R_new' ho0 (Kd.R_lt (by (with_reducible repeat (first | apply Kd.R_alloc | apply Kd.R_drewN | apply Kd.R_drew)); exact HO_76.out))) (Kd.R_lt (by (with_reducible repeat (first | apply Kd.R_alloc | apply Kd.R_drewN | apply Kd.R_drew)); exact HO286.out))) (g := gb254) (o := .cells #[.string t251, .string t252] 25 (0, 0)) (lb BK254.out)) (g := gb283) (o := .cells #[.string t280, .string t281] 25 (0, 0)) (lb BK283.out)) (below_size (lB HB.out))); have n3_ := Aside0.mk (blk_below (lb BK254.out) hb); have n4_ := Aside0.mk (blk_below (lb BK283.out) hb); have n5_ := Aside0.mk (below_step (lB HB.out) hb); clear HO_76 HO286 BK254 BK283 HB; have HO_76 := n0_; have HO286 := n1_; have HO290 := n2_; have BK254 := n3_; have BK283 := n4_; have HB := n5_; clear n0_ n1_ n2_ n3_ n4_ n5_; (try clear hb); (try clear hb2); (try clear hk); (try clear hi); (try clear ho0)))
        (try simp only [Act.put, List.setIfInBounds_toArray, List.set_cons_zero, List.set_cons_succ])
        go_cut [146] (fun v146 wc => ∃ (kq : Nat) (x146_151 : Bool), v146 = .bool x146_151 ∧ Aside0 (laws_FnRootsAndCentres.j2 kq l1 t282 t284 t287 x146_151 t280 t281 = some r) ∧ Aside0 (kq ≤ k2) ∧ Aside0 (Kd.R k25 25 wc w.heap.size (fun k_ => k_ ≠ gb283) v285 t284) ∧ Aside0 (wc.heap[gb283]? = some (.cells #[.string t280, .string t281] 25 (0, 0))) ∧ Aside0 (Below w.heap.size w wc))
        case first =>
          as_aux_lemma =>
            have H := HC152.out
            clear HC152
            by_cases c160 : (t287 != t291) = true
            · rw [if_pos c160] at H
              have c160b0 : (t287 != t291) = true := c160
              (try (have c160b1 : decide (t287 = t291) = false := by simpa using c160))
              (try (have c160b2 : (t287 == t291) = false := by simpa using c160))
              (try (have c160b3 : ¬ (t287 = t291) := by simpa using c160))
              clear c160
              (first | rw [c160b0] | (simp only [i64_w, i32_w]; rw [c160b0]) | skip)
              have H' := Aside0.mk H
              clear H
              go_wp2
              go_meet
              case rel => exact ⟨_, (true), (by first | rfl | (simp; done) | (simp [*]; done)), H', ⟨by have := HJ7.out; have := HK2.out; first | omega | exact Nat.le_refl _⟩, ⟨by (with_reducible repeat (first | apply Kd.R_alloc | apply Kd.R_drewN | apply Kd.R_drew)); exact Kd.R_mono HO286.out (fun _ hk => hk.1.2)⟩, ⟨lb BK283.out⟩, ⟨by exact lB HB.out⟩⟩
            · rw [if_neg c160] at H
              have c160b0 : (t287 != t291) = false := by simpa using c160
              (try (have c160b1 : decide (t287 = t291) = true := by simpa using c160))
              (try (have c160b2 : (t287 == t291) = true := by simpa using c160))
              clear c160
              (first | rw [c160b0] | (simp only [i64_w, i32_w]; rw [c160b0]) | skip)
              replace H := Option.bind_eq_some_iff.mp H
              obtain ⟨t292, A1610, H⟩ := H
              replace H : (laws_FnRootsAndCentres.j2 k2 l1 t282 t284 t287 (!t292) t280 t281) = some r := H
              have A161 := Aside0.mk A1610
              clear A1610
              have H' := Aside0.mk H
              clear H
              obtain ⟨Ao162, co162, eo162⟩ := Kd.R_slice HO286.out
              subst eo162
              obtain ⟨Ao163, co163, eo163⟩ := Kd.R_slice HO290.out
              subst eo163
              go_wp2_with (first | (go_at_call 8; (with_reducible refine (laws_nPairs.calls k2 _ _ t284 _ _ t288 t292 _ ?side1 ?side2 ?side3 ?side4 A161.out).mono ?_); (case side1 => repeat (first | exact (Kd.R_reads' HO286.out).2.2 | (with_reducible refine Kd.C_alloc ?_ _) | (with_reducible refine Kd.C_drewN ?_ _) | (with_reducible refine Kd.C_drew ?_))); (case side2 => exact (Kd.R_reads' HO286.out).2.1); (case side3 => repeat (first | exact (Kd.R_reads' HO290.out).2.2 | (with_reducible refine Kd.C_alloc ?_ _) | (with_reducible refine Kd.C_drewN ?_ _) | (with_reducible refine Kd.C_drew ?_))); (case side4 => exact (Kd.R_reads' HO290.out).2.1); rintro e w' ⟨rfl, ⟨nd, rfl⟩⟩))
              go_meet
              case rel => exact ⟨_, (!t292), (by first | rfl | (simp; done) | (simp [*]; done)), H', ⟨by have := HJ7.out; have := HK2.out; first | omega | exact Nat.le_refl _⟩, ⟨by (with_reducible repeat (first | apply Kd.R_alloc | apply Kd.R_drewN | apply Kd.R_drew)); exact Kd.R_mono HO286.out (fun _ hk => hk.1.2)⟩, ⟨lb BK283.out⟩, ⟨by exact lB HB.out⟩⟩
        case rest =>
          as_aux_lemma =>
            clear HC152
            (try clear c1)
            (try clear c24)
            (try clear c24b0)
            (try clear hcz156_0)
            (try clear hcz156_1)
            (try clear hcz158_0)
            (try clear hcz158_1)
            (try clear hfz156_0)
            (try clear hfz156_1)
            (try clear hfz158_0)
            (try clear hfz158_1)
            obtain ⟨kq, x146_151, rfl, HA, HJ151, HO_21, BK283, HB⟩ := hcut
            cases kq with
            | zero => exact absurd HA.out (by simp [laws_FnRootsAndCentres.j2])
            | succ kj151 =>
              have H := HA.out
              clear HA
              simp only [laws_FnRootsAndCentres.j2] at H
              by_cases c164 : x146_151 = true
              · subst c164
                have H1 : (some false) = some r := by rw [if_pos rfl] at H; exact H
                clear H
                have H := H1
                clear H1
                exact absurd ((Option.some.inj H).trans HRT.out) (by decide)
              · replace c164 := Bool.eq_false_iff.mpr c164
                subst c164
                have H1 : (if t287 = true then (laws_FnRootsAndCentres.l1 kj151 l1 t282 false 0 t284 (t284.length : Int) 0 t280 t281) else (laws_FnRootsAndCentres.j5 kj151 l1)) = some r := by rw [if_neg (show ¬ (false = true) by decide)] at H; exact H
                clear H
                have H := H1
                clear H1
                have HC165 := Aside0.mk H
                clear H
                go_upto_if 147 with (fail)
                go_cut [] (fun wc => ∃ (kq : Nat), Aside0 (laws_FnRootsAndCentres.j5 kq l1 = some r) ∧ Aside0 (kq ≤ kj151) ∧ Aside0 (Below w.heap.size w wc))
                case first =>
                  as_aux_lemma =>
                    have H := HC165.out
                    clear HC165
                    by_cases c166 : t287 = true
                    · subst c166
                      have H1 : (laws_FnRootsAndCentres.l1 kj151 l1 t282 false 0 t284 (t284.length : Int) 0 t280 t281) = some r := by rw [if_pos rfl] at H; exact H
                      clear H
                      have H := H1
                      clear H1
                      have H' := Aside0.mk H
                      clear H
                      obtain ⟨Ao167, co167, eo167⟩ := Kd.R_slice HO_21.out
                      subst eo167
                      go_wp2
                      go_loopg [25, 26, 150] kj151 (fun kq v25 v26 v150 w' => ∃ (x25_4 : Bool) (x26_4 : Int) (x150_4 : Int), v25 = .bool x25_4 ∧ v26 = .int .i64 x26_4 ∧ v150 = .int .i64 x150_4 ∧ Aside0 (laws_FnRootsAndCentres.l1 kq l1 t282 x25_4 x26_4 t284 (t284.length : Int) x150_4 t280 t281 = some r) ∧ Aside0 (kq ≤ kj151) ∧ Aside0 (Kd.R k25 25 w' w.heap.size (fun k_ => k_ ≠ gb283) (.slice Ao167 t284.length co167) t284) ∧ Aside0 (w'.heap[gb283]? = some (.cells #[.string t280, .string t281] 25 (0, 0))) ∧ Aside0 (Below w.heap.size w w'))
                      case atStart => exact ⟨(false), (0), (0), (by first | rfl | (simp; done) | (simp [*]; done)), (by first | rfl | (simp; done) | (simp [*]; done)), (by first | rfl | (simp; done) | (simp [*]; done)), H', ⟨Nat.le_refl _⟩, ⟨by (with_reducible repeat (first | apply Kd.R_alloc | apply Kd.R_drewN | apply Kd.R_drew)); exact HO_21.out⟩, ⟨lb BK283.out⟩, ⟨by exact lB HB.out⟩⟩
                      case round =>
                        clear H'
                        (try clear c164)
                        (try clear c166)
                        obtain ⟨x25_4, x26_4, x150_4, rfl, rfl, rfl, HA, HK4, HO_148, BK283, HB⟩ := hrel
                        cases gk with
                        | zero => exact absurd HA.out (by simp [laws_FnRootsAndCentres.l1])
                        | succ k4 =>
                          have H := HA.out
                          clear HA
                          simp only [laws_FnRootsAndCentres.l1] at H
                          by_cases c168 : x150_4 < (t284.length : Int)
                          · rw [if_pos c168] at H
                            have c168b0 : decide (x150_4 < (t284.length : Int)) = true := decide_eq_true c168
                            clear c168
                            (first | rw [c168b0] | (simp only [i64_w, i32_w]; rw [c168b0]) | skip)
                            by_cases c169 : 0 ≤ x150_4
                            · rw [if_pos c169] at H
                              have c169b0 : decide (0 ≤ x150_4) = true := decide_eq_true c169
                              clear c169
                              by_cases c170 : x150_4 < (t284.length : Int)
                              · rw [if_pos c170] at H
                                have c170b0 : decide (x150_4 < (t284.length : Int)) = true := decide_eq_true c170
                                clear c170
                                have HC171 := Aside0.mk H
                                clear H
                                have p293 : 0 ≤ (x150_4 : Int) := of_decide_eq_true (by first | (with_reducible assumption) | assumption)
                                have q293 : x150_4 < (t284.length : Int) := of_decide_eq_true (by first | (with_reducible assumption) | assumption)
                                obtain ⟨ad293, e293, hx293_0, hx293_1⟩ := at_T25 (Kd.R_reads' HO_148.out).2.2 x150_4 p293 q293
                                cases e293
                                replace p293 := eq_true p293
                                replace q293 := eq_true q293
                                go_upto_region 27 with (first | ((with_reducible refine gate_dst (N := 28) rfl ?_); (try (refine gate_guard (by rfl) ?_; dsimp only)); refine box_event ?hg (N := 28) ?hd (cs := #[.string (⟨#[]⟩ : ByteArray), .string (⟨#[]⟩ : ByteArray)]) (t := 25) ?hr ?_; (case hd => rfl); (case hg => rfl); (case hr => exact lr); intro gb294 hg w172 hbox hb; have n0_ := Aside0.mk (Kd.R_below (Kd.R_elderB (by (with_reducible repeat (first | apply Kd.R_alloc | apply Kd.R_drewN | apply Kd.R_drew)); exact HO_148.out) gb294 (Nat.le_of_eq hg.symm)) hb); have n1_ := Aside0.mk (blk_below (lb BK283.out) hb); have n2_ := Aside0.mk (below_step (lB HB.out) hb); have n3_ := Aside0.mk (hbox); have n4_ := gw hg (lB HB.out); have n5_ := gw hg (lB HB.out); have n6_ := na hg (lb BK283.out); have n7_ := nz hg (lb BK283.out); clear HO_148 BK283 HB; have HO_148 := n0_; have BK283 := n1_; have HB := n2_; have BK294 := n3_; have GW294 := n4_; have GE294 := n5_; have NB283_294 := n6_; have NB294_283 := n7_; clear n0_ n1_ n2_ n3_ n4_ n5_ n6_ n7_; clear hb hbox hg; have hnb173 := NB294_283.out; have hnc173 := NB283_294.out; have hcz174_0 : w172.cell? ⟨gb294, 0, none⟩ = some (.string (⟨#[]⟩ : ByteArray)) := (blk_cell BK294.out 0).trans rfl; have hcz174_1 : w172.cell? ⟨gb294, 1, none⟩ = some (.string (⟨#[]⟩ : ByteArray)) := (blk_cell BK294.out 1).trans rfl; have hfz174_0 := blk_frozen BK294.out 0; have hfz174_1 := blk_frozen BK294.out 1))
                                (try simp only [Act.put, List.setIfInBounds_toArray, List.set_cons_zero, List.set_cons_succ])
                                go_cut [25] (fun v25 wc => ∃ (kq : Nat) (x25_170 : Bool), v25 = .bool x25_170 ∧ Aside0 (laws_FnRootsAndCentres.j4 kq l1 t282 x25_170 x26_4 t284 (t284.length : Int) x150_4 t280 t281 ((rd_T25 t284 x150_4).f0) ((rd_T25 t284 x150_4).f1) = some r) ∧ Aside0 (kq ≤ k4) ∧ Aside0 (Kd.R k25 25 wc w.heap.size (fun k_ => k_ ≠ gb283 ∧ k_ ≠ gb294) (.slice (some ad293) t284.length co167) t284) ∧ Aside0 (wc.heap[gb283]? = some (.cells #[.string t280, .string t281] 25 (0, 0))) ∧ Aside0 (wc.heap[gb294]? = some (.cells #[.string ((rd_T25 t284 x150_4).f0), .string ((rd_T25 t284 x150_4).f1)] 25 (0, 0))) ∧ Aside0 (Below w.heap.size w wc))
                                case first =>
                                  as_aux_lemma =>
                                    have H := HC171.out
                                    clear HC171
                                    by_cases c175 : x25_4 = true
                                    · subst c175
                                      have H1 : (laws_FnRootsAndCentres.j4 k4 l1 t282 true x26_4 t284 (t284.length : Int) x150_4 t280 t281 ((rd_T25 t284 x150_4).f0) ((rd_T25 t284 x150_4).f1)) = some r := by rw [if_pos rfl] at H; exact H
                                      clear H
                                      have H := H1
                                      clear H1
                                      have H' := Aside0.mk H
                                      clear H
                                      try go_wp2
                                      have n0_ : Aside0 (Kd.R k25 25 ((w172.setCell ⟨gb294, 0, none⟩ (.string ((rd_T25 t284 x150_4).f0))).setCell ⟨gb294, 1, none⟩ (.string ((rd_T25 t284 x150_4).f1))) w.heap.size (fun k_ => k_ ≠ gb283 ∧ k_ ≠ gb294) (.slice (some ad293) t284.length co167) t284) := ⟨by (with_reducible repeat (first | apply Kd.R_alloc | apply Kd.R_drewN | apply Kd.R_drew)); exact Kd.R_mono (Kd.R_far (p := ⟨gb294, 1, none⟩) (Kd.R_far (p := ⟨gb294, 0, none⟩) (Kd.R_mono HO_148.out (fun k_ hk => (⟨hk, hk.2⟩ : _ ∧ k_ ≠ gb294))) (fun _ hk => hk.2) (.string ((rd_T25 t284 x150_4).f0))) (fun _ hk => hk.2) (.string ((rd_T25 t284 x150_4).f1))) (fun _ hk => ⟨hk.1.1, hk.1.2⟩)⟩
                                      have n1_ : Aside0 (((w172.setCell ⟨gb294, 0, none⟩ (.string ((rd_T25 t284 x150_4).f0))).setCell ⟨gb294, 1, none⟩ (.string ((rd_T25 t284 x150_4).f1))).heap[gb283]? = some (.cells #[.string t280, .string t281] 25 (0, 0))) := ⟨by (with_reducible repeat (first | refine blk_drewN ?_ _ | refine blk_drew ?_ | refine blk_alloc ?_ _)); refine blk_far ?_ NB283_294.out _; (with_reducible repeat (first | refine blk_drewN ?_ _ | refine blk_drew ?_ | refine blk_alloc ?_ _)); refine blk_far ?_ NB283_294.out _; exact lb BK283.out⟩
                                      have n2_ : Aside0 (((w172.setCell ⟨gb294, 0, none⟩ (.string ((rd_T25 t284 x150_4).f0))).setCell ⟨gb294, 1, none⟩ (.string ((rd_T25 t284 x150_4).f1))).heap[gb294]? = some (.cells #[.string ((rd_T25 t284 x150_4).f0), .string ((rd_T25 t284 x150_4).f1)] 25 (0, 0))) := ⟨by (with_reducible repeat (first | refine blk_drewN ?_ _ | refine blk_drew ?_ | refine blk_alloc ?_ _)); refine blk_put (cs := #[.string ((rd_T25 t284 x150_4).f0), .string (⟨#[]⟩ : ByteArray)]) ?_ 1 _ rfl; (with_reducible repeat (first | refine blk_drewN ?_ _ | refine blk_drew ?_ | refine blk_alloc ?_ _)); refine blk_put (cs := #[.string (⟨#[]⟩ : ByteArray), .string (⟨#[]⟩ : ByteArray)]) ?_ 0 _ rfl; exact lb BK294.out⟩
                                      have n3_ : Aside0 (Below w.heap.size w ((w172.setCell ⟨gb294, 0, none⟩ (.string ((rd_T25 t284 x150_4).f0))).setCell ⟨gb294, 1, none⟩ (.string ((rd_T25 t284 x150_4).f1)))) := ⟨by exact lB HB.out⟩
                                      (try clear HO_148)
                                      (try clear BK283)
                                      (try clear BK294)
                                      (try clear HB)
                                      generalize ((w172.setCell ⟨gb294, 0, none⟩ (.string ((rd_T25 t284 x150_4).f0))).setCell ⟨gb294, 1, none⟩ (.string ((rd_T25 t284 x150_4).f1))) = w176 at n0_ n1_ n2_ n3_ ⊢
                                      have HO_148 := n0_
                                      have BK283 := n1_
                                      have BK294 := n2_
                                      have HB := n3_
                                      clear n0_ n1_ n2_ n3_
                                      have n0_ := Aside0.mk (Kd.R_drew HO_148.out)
                                      have n1_ := Aside0.mk (blk_drew BK283.out)
                                      have n2_ := Aside0.mk (blk_drew BK294.out)
                                      have n3_ := Aside0.mk (below_drew1 HB.out)
                                      clear HO_148
                                      clear BK283
                                      clear BK294
                                      clear HB
                                      have HO_148 := n0_
                                      have BK283 := n1_
                                      have BK294 := n2_
                                      have HB := n3_
                                      clear n0_ n1_ n2_ n3_
                                      refine start_ (n := 7) (S := fun w' => True) (ds := []) #[false, false, false, false, false, false, false] (by kernel_rfl) rfl rfl trivial (fun hHeld => ?_)
                                      generalize w176.drew = w177 at HO_148 BK283 BK294 HB hHeld ⊢
                                      refine pure_ (i := 0) (N := some 154) (v := ?_) (a' := ?_) #[true, false, false, false, false, false, false] rfl rfl (by kernel_rfl) (fun _ _ _ h => h) (Or.inl ⟨by rfl, ?_⟩) ?_ ?_
                                      rotate_left
                                      · intro w'
                                        go_simp
                                        with_reducible rfl
                                      rotate_left
                                      · simp only [Act.put, List.setIfInBounds_toArray, List.set_cons_zero, List.set_cons_succ, i64_w, i32_w]
                                        rfl
                                      refine pure_ (i := 1) (N := some 155) (v := ?_) (a' := ?_) #[true, true, false, false, false, false, false] rfl rfl (by kernel_rfl) (fun _ _ _ h => h) (Or.inl ⟨by rfl, ?_⟩) ?_ ?_
                                      rotate_left
                                      · intro w'
                                        go_simp
                                        with_reducible rfl
                                      rotate_left
                                      · simp only [Act.put, List.setIfInBounds_toArray, List.set_cons_zero, List.set_cons_succ, i64_w, i32_w]
                                        rfl
                                      refine pure_ (i := 2) (N := some 156) (v := undef) (a' := ?_) #[true, true, true, false, false, false, false] rfl rfl (by kernel_rfl) (fun _ _ _ h => h) (Or.inr ⟨by rfl, rfl⟩) ?_ ?_
                                      rotate_left
                                      · simp only [Act.put, List.setIfInBounds_toArray, List.set_cons_zero, List.set_cons_succ, i64_w, i32_w]
                                        rfl
                                      refine pure_ (i := 3) (N := some 157) (v := undef) (a' := ?_) #[true, true, true, true, false, false, false] rfl rfl (by kernel_rfl) (fun _ _ _ h => h) (Or.inr ⟨by rfl, rfl⟩) ?_ ?_
                                      rotate_left
                                      · simp only [Act.put, List.setIfInBounds_toArray, List.set_cons_zero, List.set_cons_succ, i64_w, i32_w]
                                        rfl
                                      refine pure_ (i := 4) (N := some 158) (v := undef) (a' := ?_) #[true, true, true, true, true, false, false] rfl rfl (by kernel_rfl) (fun _ _ _ h => h) (Or.inr ⟨by rfl, rfl⟩) ?_ ?_
                                      rotate_left
                                      · simp only [Act.put, List.setIfInBounds_toArray, List.set_cons_zero, List.set_cons_succ, i64_w, i32_w]
                                        rfl
                                      refine pure_ (i := 5) (N := some 159) (v := ?_) (a' := ?_) #[true, true, true, true, true, true, false] rfl rfl (by kernel_rfl) (fun _ _ _ h => h) (Or.inl ⟨by rfl, ?_⟩) ?_ ?_
                                      rotate_left
                                      · intro w'
                                        go_simp
                                        with_reducible rfl
                                      rotate_left
                                      · simp only [Act.put, List.setIfInBounds_toArray, List.set_cons_zero, List.set_cons_succ, i64_w, i32_w]
                                        rfl
                                      refine pure_ (i := 6) (N := some 25) (v := ?_) (a' := ?_) #[true, true, true, true, true, true, true] rfl rfl (by kernel_rfl) (fun _ _ _ h => h) (Or.inl ⟨by rfl, ?_⟩) ?_ ?_
                                      rotate_left
                                      · intro w'
                                        go_simp
                                        with_reducible rfl
                                      rotate_left
                                      · simp only [Act.put, List.setIfInBounds_toArray, List.set_cons_zero, List.set_cons_succ, i64_w, i32_w]
                                        rfl
                                      refine done_ (by kernel_rfl) ?_
                                      try go_wp2
                                      go_meet
                                      case rel => exact ⟨_, (true), (by first | rfl | (simp; done) | (simp [*]; done)), H', ⟨by have := HJ7.out; have := HK2.out; have := HJ151.out; have := HK4.out; first | omega | exact Nat.le_refl _⟩, ⟨by (with_reducible repeat (first | apply Kd.R_alloc | apply Kd.R_drewN | apply Kd.R_drew)); exact HO_148.out⟩, ⟨lb BK283.out⟩, ⟨lb BK294.out⟩, ⟨by exact lB HB.out⟩⟩
                                    · replace c175 := Bool.eq_false_iff.mpr c175
                                      subst c175
                                      have H1 : ((impl_IdentityPair.f).bind fun bt295 => (laws_FnRootsAndCentres.j4 k4 l1 t282 ((((rd_T25 t284 x150_4).f0).toList) == bt295.1.toList && ((((rd_T25 t284 x150_4).f1).toList) == bt295.2.toList)) x26_4 t284 (t284.length : Int) x150_4 t280 t281 ((rd_T25 t284 x150_4).f0) ((rd_T25 t284 x150_4).f1))) = some r := by rw [if_neg (show ¬ (false = true) by decide)] at H; exact H
                                      clear H
                                      have H := H1
                                      clear H1
                                      replace H := Option.bind_eq_some_iff.mp H
                                      obtain ⟨⟨t295, t296⟩, A1780, H⟩ := H
                                      replace H : (laws_FnRootsAndCentres.j4 k4 l1 t282 ((((rd_T25 t284 x150_4).f0).toList) == t295.toList && ((((rd_T25 t284 x150_4).f1).toList) == t296.toList)) x26_4 t284 (t284.length : Int) x150_4 t280 t281 ((rd_T25 t284 x150_4).f0) ((rd_T25 t284 x150_4).f1)) = some r := H
                                      have A178 := Aside0.mk A1780
                                      clear A1780
                                      have H' := Aside0.mk H
                                      clear H
                                      try go_wp2
                                      have n0_ : Aside0 (Kd.R k25 25 ((w172.setCell ⟨gb294, 0, none⟩ (.string ((rd_T25 t284 x150_4).f0))).setCell ⟨gb294, 1, none⟩ (.string ((rd_T25 t284 x150_4).f1))) w.heap.size (fun k_ => k_ ≠ gb283 ∧ k_ ≠ gb294) (.slice (some ad293) t284.length co167) t284) := ⟨by (with_reducible repeat (first | apply Kd.R_alloc | apply Kd.R_drewN | apply Kd.R_drew)); exact Kd.R_mono (Kd.R_far (p := ⟨gb294, 1, none⟩) (Kd.R_far (p := ⟨gb294, 0, none⟩) (Kd.R_mono HO_148.out (fun k_ hk => (⟨hk, hk.2⟩ : _ ∧ k_ ≠ gb294))) (fun _ hk => hk.2) (.string ((rd_T25 t284 x150_4).f0))) (fun _ hk => hk.2) (.string ((rd_T25 t284 x150_4).f1))) (fun _ hk => ⟨hk.1.1, hk.1.2⟩)⟩
                                      have n1_ : Aside0 (((w172.setCell ⟨gb294, 0, none⟩ (.string ((rd_T25 t284 x150_4).f0))).setCell ⟨gb294, 1, none⟩ (.string ((rd_T25 t284 x150_4).f1))).heap[gb283]? = some (.cells #[.string t280, .string t281] 25 (0, 0))) := ⟨by (with_reducible repeat (first | refine blk_drewN ?_ _ | refine blk_drew ?_ | refine blk_alloc ?_ _)); refine blk_far ?_ NB283_294.out _; (with_reducible repeat (first | refine blk_drewN ?_ _ | refine blk_drew ?_ | refine blk_alloc ?_ _)); refine blk_far ?_ NB283_294.out _; exact lb BK283.out⟩
                                      have n2_ : Aside0 (((w172.setCell ⟨gb294, 0, none⟩ (.string ((rd_T25 t284 x150_4).f0))).setCell ⟨gb294, 1, none⟩ (.string ((rd_T25 t284 x150_4).f1))).heap[gb294]? = some (.cells #[.string ((rd_T25 t284 x150_4).f0), .string ((rd_T25 t284 x150_4).f1)] 25 (0, 0))) := ⟨by (with_reducible repeat (first | refine blk_drewN ?_ _ | refine blk_drew ?_ | refine blk_alloc ?_ _)); refine blk_put (cs := #[.string ((rd_T25 t284 x150_4).f0), .string (⟨#[]⟩ : ByteArray)]) ?_ 1 _ rfl; (with_reducible repeat (first | refine blk_drewN ?_ _ | refine blk_drew ?_ | refine blk_alloc ?_ _)); refine blk_put (cs := #[.string (⟨#[]⟩ : ByteArray), .string (⟨#[]⟩ : ByteArray)]) ?_ 0 _ rfl; exact lb BK294.out⟩
                                      have n3_ : Aside0 (Below w.heap.size w ((w172.setCell ⟨gb294, 0, none⟩ (.string ((rd_T25 t284 x150_4).f0))).setCell ⟨gb294, 1, none⟩ (.string ((rd_T25 t284 x150_4).f1)))) := ⟨by exact lB HB.out⟩
                                      (try clear HO_148)
                                      (try clear BK283)
                                      (try clear BK294)
                                      (try clear HB)
                                      generalize ((w172.setCell ⟨gb294, 0, none⟩ (.string ((rd_T25 t284 x150_4).f0))).setCell ⟨gb294, 1, none⟩ (.string ((rd_T25 t284 x150_4).f1))) = w179 at n0_ n1_ n2_ n3_ ⊢
                                      have HO_148 := n0_
                                      have BK283 := n1_
                                      have BK294 := n2_
                                      have HB := n3_
                                      clear n0_ n1_ n2_ n3_
                                      have n0_ := Aside0.mk (Kd.R_drew HO_148.out)
                                      have n1_ := Aside0.mk (blk_drew BK283.out)
                                      have n2_ := Aside0.mk (blk_drew BK294.out)
                                      have n3_ := Aside0.mk (below_drew1 HB.out)
                                      clear HO_148
                                      clear BK283
                                      clear BK294
                                      clear HB
                                      have HO_148 := n0_
                                      have BK283 := n1_
                                      have BK294 := n2_
                                      have HB := n3_
                                      clear n0_ n1_ n2_ n3_
                                      refine start_ (n := 7) (S := fun w' => w'.cell? ⟨gb294, 0, none⟩ = some (.string ((rd_T25 t284 x150_4).f0)) ∧ w'.cell? ⟨gb294, 1, none⟩ = some (.string ((rd_T25 t284 x150_4).f1))) (ds := []) #[false, false, false, false, false, false, false] (by kernel_rfl) rfl rfl ⟨(blk_cell BK294.out 0).trans rfl, (blk_cell BK294.out 1).trans rfl⟩ (fun hHeld => ?_)
                                      generalize w179.drew = w180 at HO_148 BK283 BK294 HB hHeld ⊢
                                      refine pure_ (i := 0) (N := some 154) (v := ?_) (a' := ?_) #[true, false, false, false, false, false, false] rfl rfl (by kernel_rfl) (fun _ _ _ h => h) (Or.inl ⟨by rfl, ?_⟩) ?_ ?_
                                      rotate_left
                                      · intro w'
                                        go_simp
                                        with_reducible rfl
                                      rotate_left
                                      · simp only [Act.put, List.setIfInBounds_toArray, List.set_cons_zero, List.set_cons_succ, i64_w, i32_w]
                                        rfl
                                      refine pure_ (i := 1) (N := some 155) (v := ?_) (a' := ?_) #[true, true, false, false, false, false, false] rfl rfl (by kernel_rfl) (fun _ _ _ h => h) (Or.inl ⟨by rfl, ?_⟩) ?_ ?_
                                      rotate_left
                                      · intro w'
                                        go_simp
                                        with_reducible rfl
                                      rotate_left
                                      · simp only [Act.put, List.setIfInBounds_toArray, List.set_cons_zero, List.set_cons_succ, i64_w, i32_w]
                                        rfl
                                      refine take_ (i := 2) (N := some 156) (v := ?_) (a' := ?_) #[true, true, true, false, false, false, false] rfl rfl (by kernel_rfl) (fun _ _ _ h => h) (Or.inl ⟨by rfl, ?_⟩) hHeld ?_ ?_
                                      rotate_left
                                      · rintro w' ⟨s0, s1⟩
                                        go_simp
                                        with_reducible rfl
                                      rotate_left
                                      · simp only [Act.put, List.setIfInBounds_toArray, List.set_cons_zero, List.set_cons_succ, i64_w, i32_w]
                                        rfl
                                      refine one_ (i := 3) (N := some 157) #[true, true, true, true, false, false, false] rfl rfl (by kernel_rfl) (by decide) (fun K hK => ?_)
                                      refine goes_ Tryz.func15 (by kernel_rfl) rfl #[] (by rfl) rfl rfl lm ?_
                                      with_reducible refine (impl_IdentityPair.calls  t295 t296 _ A178.out).mono ?_
                                      rintro e w181 ⟨rfl, hb⟩
                                      refine ⟨_, rfl, ?_⟩
                                      have n0_ := Aside0.mk (Kd.R_below (by (with_reducible repeat (first | apply Kd.R_alloc | apply Kd.R_drewN | apply Kd.R_drew)); exact HO_148.out) hb)
                                      have n1_ := Aside0.mk (blk_below (lb BK283.out) hb)
                                      have n2_ := Aside0.mk (blk_below (lb BK294.out) hb)
                                      have n3_ := Aside0.mk (below_step (lB HB.out) hb)
                                      clear HO_148
                                      clear BK283
                                      clear BK294
                                      clear HB
                                      have HO_148 := n0_
                                      have BK283 := n1_
                                      have BK294 := n2_
                                      have HB := n3_
                                      clear n0_ n1_ n2_ n3_
                                      (try clear hb)
                                      (try clear hb2)
                                      (try clear hk)
                                      (try clear hi)
                                      refine hK.out _ _ ⟨(blk_cell BK294.out 0).trans rfl, (blk_cell BK294.out 1).trans rfl⟩ (fun hHeld => ?_)
                                      clear hK K
                                      refine norm_ (a' := ?_) ?_ ?_
                                      rotate_left
                                      · show Act.put _ (some 157) _ = _
                                        simp only [Act.put, List.setIfInBounds_toArray, List.set_cons_zero, List.set_cons_succ, i64_w, i32_w]
                                        rfl
                                      refine pure_ (i := 4) (N := some 158) (v := ?_) (a' := ?_) #[true, true, true, true, true, false, false] rfl rfl (by kernel_rfl) (fun _ _ _ h => h) (Or.inl ⟨by rfl, ?_⟩) ?_ ?_
                                      rotate_left
                                      · intro w'
                                        go_simp
                                        with_reducible rfl
                                      rotate_left
                                      · simp only [Act.put, List.setIfInBounds_toArray, List.set_cons_zero, List.set_cons_succ, i64_w, i32_w]
                                        rfl
                                      refine pure_ (i := 5) (N := some 159) (v := ?_) (a' := ?_) #[true, true, true, true, true, true, false] rfl rfl (by kernel_rfl) (fun _ _ _ h => h) (Or.inl ⟨by rfl, ?_⟩) ?_ ?_
                                      rotate_left
                                      · intro w'
                                        go_simp
                                        with_reducible rfl
                                      rotate_left
                                      · simp only [Act.put, List.setIfInBounds_toArray, List.set_cons_zero, List.set_cons_succ, i64_w, i32_w]
                                        rfl
                                      refine pure_ (i := 6) (N := some 25) (v := ?_) (a' := ?_) #[true, true, true, true, true, true, true] rfl rfl (by kernel_rfl) (fun _ _ _ h => h) (Or.inl ⟨by rfl, ?_⟩) ?_ ?_
                                      rotate_left
                                      · intro w'
                                        go_simp
                                        with_reducible rfl
                                      rotate_left
                                      · simp only [Act.put, List.setIfInBounds_toArray, List.set_cons_zero, List.set_cons_succ, i64_w, i32_w]
                                        rfl
                                      refine done_ (by kernel_rfl) ?_
                                      try go_wp2
                                      go_meet
                                      case rel => exact ⟨_, (((((rd_T25 t284 x150_4).f0).toList) == t295.toList && ((((rd_T25 t284 x150_4).f1).toList) == t296.toList))), (by first | rfl | (simp; done) | (simp [*]; done)), H', ⟨by have := HJ7.out; have := HK2.out; have := HJ151.out; have := HK4.out; first | omega | exact Nat.le_refl _⟩, ⟨by (with_reducible repeat (first | apply Kd.R_alloc | apply Kd.R_drewN | apply Kd.R_drew)); exact HO_148.out⟩, ⟨lb BK283.out⟩, ⟨lb BK294.out⟩, ⟨by exact lB HB.out⟩⟩
                                case rest =>
                                  as_aux_lemma =>
                                    clear HC171
                                    (try clear c168)
                                    (try clear c168b0)
                                    (try clear c169)
                                    (try clear c169b0)
                                    (try clear c170)
                                    (try clear c170b0)
                                    (try clear hcz174_0)
                                    (try clear hcz174_1)
                                    (try clear hfz174_0)
                                    (try clear hfz174_1)
                                    (try clear hx293_0)
                                    (try clear hx293_1)
                                    (try clear p293)
                                    (try clear q293)
                                    obtain ⟨kq, x25_170, rfl, HA, HJ170, HO_148, BK283, BK294, HB⟩ := hcut
                                    cases kq with
                                    | zero => exact absurd HA.out (by simp [laws_FnRootsAndCentres.j4])
                                    | succ kj170 =>
                                      have H := HA.out
                                      clear HA
                                      simp only [laws_FnRootsAndCentres.j4] at H
                                      replace H := Option.bind_eq_some_iff.mp H
                                      obtain ⟨⟨t297, t298⟩, A1820, H⟩ := H
                                      replace H : ((impl_CaretsOf.f ((rd_T25 t284 x150_4).f0)).bind fun bt299 => (if t298 = true then (if t297 = true then (if bt299.2 = true then (if bt299.1 < x26_4 then (some false) else (if bt299.1 > t282 then (some false) else (laws_FnRootsAndCentres.l1 kj170 l1 t282 x25_170 bt299.1 t284 (t284.length : Int) (wrap64 (x150_4 + 1)) t280 t281))) else (some false)) else (some false)) else (if bt299.2 = true then (if bt299.1 < x26_4 then (some false) else (if bt299.1 > t282 then (some false) else (laws_FnRootsAndCentres.l1 kj170 l1 t282 x25_170 bt299.1 t284 (t284.length : Int) (wrap64 (x150_4 + 1)) t280 t281))) else (some false)))) = some r := H
                                      have A182 := Aside0.mk A1820
                                      clear A1820
                                      replace H := Option.bind_eq_some_iff.mp H
                                      obtain ⟨⟨t299, t300⟩, A1830, H⟩ := H
                                      replace H : (if t298 = true then (if t297 = true then (if t300 = true then (if t299 < x26_4 then (some false) else (if t299 > t282 then (some false) else (laws_FnRootsAndCentres.l1 kj170 l1 t282 x25_170 t299 t284 (t284.length : Int) (wrap64 (x150_4 + 1)) t280 t281))) else (some false)) else (some false)) else (if t300 = true then (if t299 < x26_4 then (some false) else (if t299 > t282 then (some false) else (laws_FnRootsAndCentres.l1 kj170 l1 t282 x25_170 t299 t284 (t284.length : Int) (wrap64 (x150_4 + 1)) t280 t281))) else (some false))) = some r := H
                                      have A183 := Aside0.mk A1830
                                      clear A1830
                                      by_cases c184 : t298 = true
                                      · subst c184
                                        have H1 : (if t297 = true then (if t300 = true then (if t299 < x26_4 then (some false) else (if t299 > t282 then (some false) else (laws_FnRootsAndCentres.l1 kj170 l1 t282 x25_170 t299 t284 (t284.length : Int) (wrap64 (x150_4 + 1)) t280 t281))) else (some false)) else (some false)) = some r := by rw [if_pos rfl] at H; exact H
                                        clear H
                                        have H := H1
                                        clear H1
                                        by_cases c185 : t297 = true
                                        · subst c185
                                          have H1 : (if t300 = true then (if t299 < x26_4 then (some false) else (if t299 > t282 then (some false) else (laws_FnRootsAndCentres.l1 kj170 l1 t282 x25_170 t299 t284 (t284.length : Int) (wrap64 (x150_4 + 1)) t280 t281))) else (some false)) = some r := by rw [if_pos rfl] at H; exact H
                                          clear H
                                          have H := H1
                                          clear H1
                                          by_cases c186 : t300 = true
                                          · subst c186
                                            have H1 : (if t299 < x26_4 then (some false) else (if t299 > t282 then (some false) else (laws_FnRootsAndCentres.l1 kj170 l1 t282 x25_170 t299 t284 (t284.length : Int) (wrap64 (x150_4 + 1)) t280 t281))) = some r := by rw [if_pos rfl] at H; exact H
                                            clear H
                                            have H := H1
                                            clear H1
                                            by_cases c187 : t299 < x26_4
                                            · rw [if_pos c187] at H
                                              have c187b0 : decide (t299 < x26_4) = true := decide_eq_true c187
                                              clear c187
                                              exact absurd ((Option.some.inj H).trans HRT.out) (by decide)
                                            · rw [if_neg c187] at H
                                              have c187b0 : decide (t299 < x26_4) = false := decide_eq_false c187
                                              clear c187
                                              by_cases c188 : t299 > t282
                                              · rw [if_pos c188] at H
                                                have c188b0 : decide (t282 < t299) = true := decide_eq_true c188
                                                clear c188
                                                exact absurd ((Option.some.inj H).trans HRT.out) (by decide)
                                              · rw [if_neg c188] at H
                                                have c188b0 : decide (t282 < t299) = false := decide_eq_false c188
                                                clear c188
                                                have H' := Aside0.mk H
                                                clear H
                                                have hnb189 := NB283_294.out
                                                have hnc189 := NB294_283.out
                                                have hcz190_0 : wc.cell? ⟨gb283, 0, none⟩ = some (.string t280) := (blk_cell BK283.out 0).trans rfl
                                                have hcz190_1 : wc.cell? ⟨gb283, 1, none⟩ = some (.string t281) := (blk_cell BK283.out 1).trans rfl
                                                have hfz190_0 := blk_frozen BK283.out 0
                                                have hfz190_1 := blk_frozen BK283.out 1
                                                have hcz191_0 : wc.cell? ⟨gb294, 0, none⟩ = some (.string ((rd_T25 t284 x150_4).f0)) := (blk_cell BK294.out 0).trans rfl
                                                have hcz191_1 : wc.cell? ⟨gb294, 1, none⟩ = some (.string ((rd_T25 t284 x150_4).f1)) := (blk_cell BK294.out 1).trans rfl
                                                have hfz191_0 := blk_frozen BK294.out 0
                                                have hfz191_1 := blk_frozen BK294.out 1
                                                go_wp2_with (first | ((with_reducible refine gate_callee (f := 16) rfl ?_); refine goesL_ (some 163) rfl rfl Tryz.func16 (by kernel_rfl) rfl #[.agg #[.string t280, .string t281], .agg #[.string ((rd_T25 t284 x150_4).f0), .string ((rd_T25 t284 x150_4).f1)]] rfl lm ?_; (with_reducible refine (impl_DoCommute.calls t280 t281 ((rd_T25 t284 x150_4).f0) ((rd_T25 t284 x150_4).f1) true true _ A182.out).mono ?_); rintro e w192 ⟨rfl, hb⟩; refine ⟨_, rfl, ?_⟩; have n0_ := Aside0.mk (Kd.R_below (by (with_reducible repeat (first | apply Kd.R_alloc | apply Kd.R_drewN | apply Kd.R_drew)); exact HO_148.out) hb); have n1_ := Aside0.mk (blk_below (lb BK283.out) hb); have n2_ := Aside0.mk (blk_below (lb BK294.out) hb); have n3_ := Aside0.mk (below_step (lB HB.out) hb); clear HO_148 BK283 BK294 HB; have HO_148 := n0_; have BK283 := n1_; have BK294 := n2_; have HB := n3_; clear n0_ n1_ n2_ n3_; (try clear hb); (try clear hb2); (try clear hk); (try clear hi); have hcz193_0 : w192.cell? ⟨gb294, 0, none⟩ = some (.string ((rd_T25 t284 x150_4).f0)) := (blk_cell BK294.out 0).trans rfl; have hcz193_1 : w192.cell? ⟨gb294, 1, none⟩ = some (.string ((rd_T25 t284 x150_4).f1)) := (blk_cell BK294.out 1).trans rfl; have hfz193_0 := blk_frozen BK294.out 0; have hfz193_1 := blk_frozen BK294.out 1) | ((with_reducible refine gate_callee (f := 17) rfl ?_); refine goesL_ (some 169) rfl rfl Tryz.func17 (by kernel_rfl) rfl #[.string ((rd_T25 t284 x150_4).f0)] rfl lm ?_; (with_reducible refine (impl_CaretsOf.calls ((rd_T25 t284 x150_4).f0) t299 true _ A183.out).mono ?_); rintro e w194 ⟨rfl, hb⟩; refine ⟨_, rfl, ?_⟩; have n0_ := Aside0.mk (Kd.R_below (by (with_reducible repeat (first | apply Kd.R_alloc | apply Kd.R_drewN | apply Kd.R_drew)); exact HO_148.out) hb); have n1_ := Aside0.mk (blk_below (lb BK283.out) hb); have n2_ := Aside0.mk (blk_below (lb BK294.out) hb); have n3_ := Aside0.mk (below_step (lB HB.out) hb); clear HO_148 BK283 BK294 HB; have HO_148 := n0_; have BK283 := n1_; have BK294 := n2_; have HB := n3_; clear n0_ n1_ n2_ n3_; (try clear hb); (try clear hb2); (try clear hk); (try clear hi)))
                                                go_roundg kj170
                                                case measure => have := HJ7.out; have := HK2.out; have := HJ151.out; have := HK4.out; have := HJ170.out; omega
                                                case rel => exact ⟨(x25_170), (t299), (wrap64 (x150_4 + 1)), (by first | rfl | (simp; done) | (simp [*]; done)), (by first | rfl | (simp; done) | (simp [*]; done)), (by first | rfl | (simp; done) | (simp [*]; done)), H', ⟨by have := HJ7.out; have := HK2.out; have := HJ151.out; have := HK4.out; have := HJ170.out; omega⟩, ⟨by (with_reducible repeat (first | apply Kd.R_alloc | apply Kd.R_drewN | apply Kd.R_drew)); exact Kd.R_mono HO_148.out (fun _ hk => hk.1)⟩, ⟨lb BK283.out⟩, ⟨by exact lB HB.out⟩⟩
                                          · replace c186 := Bool.eq_false_iff.mpr c186
                                            subst c186
                                            have H1 : (some false) = some r := by rw [if_neg (show ¬ (false = true) by decide)] at H; exact H
                                            clear H
                                            have H := H1
                                            clear H1
                                            exact absurd ((Option.some.inj H).trans HRT.out) (by decide)
                                        · replace c185 := Bool.eq_false_iff.mpr c185
                                          subst c185
                                          have H1 : (some false) = some r := by rw [if_neg (show ¬ (false = true) by decide)] at H; exact H
                                          clear H
                                          have H := H1
                                          clear H1
                                          exact absurd ((Option.some.inj H).trans HRT.out) (by decide)
                                      · replace c184 := Bool.eq_false_iff.mpr c184
                                        subst c184
                                        have H1 : (if t300 = true then (if t299 < x26_4 then (some false) else (if t299 > t282 then (some false) else (laws_FnRootsAndCentres.l1 kj170 l1 t282 x25_170 t299 t284 (t284.length : Int) (wrap64 (x150_4 + 1)) t280 t281))) else (some false)) = some r := by rw [if_neg (show ¬ (false = true) by decide)] at H; exact H
                                        clear H
                                        have H := H1
                                        clear H1
                                        by_cases c195 : t300 = true
                                        · subst c195
                                          have H1 : (if t299 < x26_4 then (some false) else (if t299 > t282 then (some false) else (laws_FnRootsAndCentres.l1 kj170 l1 t282 x25_170 t299 t284 (t284.length : Int) (wrap64 (x150_4 + 1)) t280 t281))) = some r := by rw [if_pos rfl] at H; exact H
                                          clear H
                                          have H := H1
                                          clear H1
                                          by_cases c196 : t299 < x26_4
                                          · rw [if_pos c196] at H
                                            have c196b0 : decide (t299 < x26_4) = true := decide_eq_true c196
                                            clear c196
                                            exact absurd ((Option.some.inj H).trans HRT.out) (by decide)
                                          · rw [if_neg c196] at H
                                            have c196b0 : decide (t299 < x26_4) = false := decide_eq_false c196
                                            clear c196
                                            by_cases c197 : t299 > t282
                                            · rw [if_pos c197] at H
                                              have c197b0 : decide (t282 < t299) = true := decide_eq_true c197
                                              clear c197
                                              exact absurd ((Option.some.inj H).trans HRT.out) (by decide)
                                            · rw [if_neg c197] at H
                                              have c197b0 : decide (t282 < t299) = false := decide_eq_false c197
                                              clear c197
                                              have H' := Aside0.mk H
                                              clear H
                                              have hnb198 := NB283_294.out
                                              have hnc198 := NB294_283.out
                                              have hcz199_0 : wc.cell? ⟨gb283, 0, none⟩ = some (.string t280) := (blk_cell BK283.out 0).trans rfl
                                              have hcz199_1 : wc.cell? ⟨gb283, 1, none⟩ = some (.string t281) := (blk_cell BK283.out 1).trans rfl
                                              have hfz199_0 := blk_frozen BK283.out 0
                                              have hfz199_1 := blk_frozen BK283.out 1
                                              have hcz200_0 : wc.cell? ⟨gb294, 0, none⟩ = some (.string ((rd_T25 t284 x150_4).f0)) := (blk_cell BK294.out 0).trans rfl
                                              have hcz200_1 : wc.cell? ⟨gb294, 1, none⟩ = some (.string ((rd_T25 t284 x150_4).f1)) := (blk_cell BK294.out 1).trans rfl
                                              have hfz200_0 := blk_frozen BK294.out 0
                                              have hfz200_1 := blk_frozen BK294.out 1
                                              go_wp2_with (first | ((with_reducible refine gate_callee (f := 16) rfl ?_); refine goesL_ (some 163) rfl rfl Tryz.func16 (by kernel_rfl) rfl #[.agg #[.string t280, .string t281], .agg #[.string ((rd_T25 t284 x150_4).f0), .string ((rd_T25 t284 x150_4).f1)]] rfl lm ?_; (with_reducible refine (impl_DoCommute.calls t280 t281 ((rd_T25 t284 x150_4).f0) ((rd_T25 t284 x150_4).f1) t297 false _ A182.out).mono ?_); rintro e w201 ⟨rfl, hb⟩; refine ⟨_, rfl, ?_⟩; have n0_ := Aside0.mk (Kd.R_below (by (with_reducible repeat (first | apply Kd.R_alloc | apply Kd.R_drewN | apply Kd.R_drew)); exact HO_148.out) hb); have n1_ := Aside0.mk (blk_below (lb BK283.out) hb); have n2_ := Aside0.mk (blk_below (lb BK294.out) hb); have n3_ := Aside0.mk (below_step (lB HB.out) hb); clear HO_148 BK283 BK294 HB; have HO_148 := n0_; have BK283 := n1_; have BK294 := n2_; have HB := n3_; clear n0_ n1_ n2_ n3_; (try clear hb); (try clear hb2); (try clear hk); (try clear hi); have hcz202_0 : w201.cell? ⟨gb294, 0, none⟩ = some (.string ((rd_T25 t284 x150_4).f0)) := (blk_cell BK294.out 0).trans rfl; have hcz202_1 : w201.cell? ⟨gb294, 1, none⟩ = some (.string ((rd_T25 t284 x150_4).f1)) := (blk_cell BK294.out 1).trans rfl; have hfz202_0 := blk_frozen BK294.out 0; have hfz202_1 := blk_frozen BK294.out 1) | ((with_reducible refine gate_callee (f := 17) rfl ?_); refine goesL_ (some 169) rfl rfl Tryz.func17 (by kernel_rfl) rfl #[.string ((rd_T25 t284 x150_4).f0)] rfl lm ?_; (with_reducible refine (impl_CaretsOf.calls ((rd_T25 t284 x150_4).f0) t299 true _ A183.out).mono ?_); rintro e w203 ⟨rfl, hb⟩; refine ⟨_, rfl, ?_⟩; have n0_ := Aside0.mk (Kd.R_below (by (with_reducible repeat (first | apply Kd.R_alloc | apply Kd.R_drewN | apply Kd.R_drew)); exact HO_148.out) hb); have n1_ := Aside0.mk (blk_below (lb BK283.out) hb); have n2_ := Aside0.mk (blk_below (lb BK294.out) hb); have n3_ := Aside0.mk (below_step (lB HB.out) hb); clear HO_148 BK283 BK294 HB; have HO_148 := n0_; have BK283 := n1_; have BK294 := n2_; have HB := n3_; clear n0_ n1_ n2_ n3_; (try clear hb); (try clear hb2); (try clear hk); (try clear hi)))
                                              go_roundg kj170
                                              case measure => have := HJ7.out; have := HK2.out; have := HJ151.out; have := HK4.out; have := HJ170.out; omega
                                              case rel => exact ⟨(x25_170), (t299), (wrap64 (x150_4 + 1)), (by first | rfl | (simp; done) | (simp [*]; done)), (by first | rfl | (simp; done) | (simp [*]; done)), (by first | rfl | (simp; done) | (simp [*]; done)), H', ⟨by have := HJ7.out; have := HK2.out; have := HJ151.out; have := HK4.out; have := HJ170.out; omega⟩, ⟨by (with_reducible repeat (first | apply Kd.R_alloc | apply Kd.R_drewN | apply Kd.R_drew)); exact Kd.R_mono HO_148.out (fun _ hk => hk.1)⟩, ⟨lb BK283.out⟩, ⟨by exact lB HB.out⟩⟩
                                        · replace c195 := Bool.eq_false_iff.mpr c195
                                          subst c195
                                          have H1 : (some false) = some r := by rw [if_neg (show ¬ (false = true) by decide)] at H; exact H
                                          clear H
                                          have H := H1
                                          clear H1
                                          exact absurd ((Option.some.inj H).trans HRT.out) (by decide)
                              · rw [if_neg c170] at H
                                exact absurd H (by simp)
                            · rw [if_neg c169] at H
                              exact absurd H (by simp)
                          · rw [if_neg c168] at H
                            have c168b0 : decide (x150_4 < (t284.length : Int)) = false := decide_eq_false c168
                            clear c168
                            (first | rw [c168b0] | (simp only [i64_w, i32_w]; rw [c168b0]) | skip)
                            by_cases c204 : x25_4 = true
                            · subst c204
                              have H1 : (laws_FnRootsAndCentres.j5 k4 l1) = some r := by rw [if_pos rfl] at H; exact H
                              clear H
                              have H := H1
                              clear H1
                              have H' := Aside0.mk H
                              clear H
                              go_wp2
                              go_meet
                              case rel => exact ⟨_, H', ⟨by have := HJ7.out; have := HK2.out; have := HJ151.out; have := HK4.out; first | omega | exact Nat.le_refl _⟩, ⟨by exact lB HB.out⟩⟩
                            · replace c204 := Bool.eq_false_iff.mpr c204
                              subst c204
                              have H1 : (some false) = some r := by rw [if_neg (show ¬ (false = true) by decide)] at H; exact H
                              clear H
                              have H := H1
                              clear H1
                              exact absurd ((Option.some.inj H).trans HRT.out) (by decide)
                    · replace c166 := Bool.eq_false_iff.mpr c166
                      subst c166
                      have H1 : (laws_FnRootsAndCentres.j5 kj151 l1) = some r := by rw [if_neg (show ¬ (false = true) by decide)] at H; exact H
                      clear H
                      have H := H1
                      clear H1
                      have H' := Aside0.mk H
                      clear H
                      go_wp2
                      go_meet
                      case rel => exact ⟨_, H', ⟨by have := HJ7.out; have := HK2.out; have := HJ151.out; first | omega | exact Nat.le_refl _⟩, ⟨by exact lB HB.out⟩⟩
                case rest =>
                  as_aux_lemma =>
                    clear HC165
                    obtain ⟨kq, HA, HJ164, HB⟩ := hcut
                    cases kq with
                    | zero => exact absurd HA.out (by simp [laws_FnRootsAndCentres.j5])
                    | succ kj164 =>
                      have H := HA.out
                      clear HA
                      simp only [laws_FnRootsAndCentres.j5] at H
                      replace H := Option.bind_eq_some_iff.mp H
                      obtain ⟨t301, A2050, H⟩ := H
                      replace H : ((impl_SmallPairs.f t301).bind fun bt302 => ((spec_SmallPairs.f t301).bind fun bt306 => (if (bt302.2 != bt306.2) = true then (laws_FnRootsAndCentres.j6 kj164 t301 bt302.1 bt302.2 true) else ((laws_nPairs.f kj164 bt302.1 bt306.1).bind fun t310 => (laws_FnRootsAndCentres.j6 kj164 t301 bt302.1 bt302.2 (!t310)))))) = some r := H
                      have A205 := Aside0.mk A2050
                      clear A2050
                      replace H := Option.bind_eq_some_iff.mp H
                      obtain ⟨⟨t302, t303⟩, A2060, H⟩ := H
                      replace H : ((spec_SmallPairs.f t301).bind fun bt306 => (if (t303 != bt306.2) = true then (laws_FnRootsAndCentres.j6 kj164 t301 t302 t303 true) else ((laws_nPairs.f kj164 t302 bt306.1).bind fun t310 => (laws_FnRootsAndCentres.j6 kj164 t301 t302 t303 (!t310))))) = some r := H
                      have A206 := Aside0.mk A2060
                      clear A2060
                      replace H := Option.bind_eq_some_iff.mp H
                      obtain ⟨⟨t306, t307⟩, A2070, H⟩ := H
                      replace H : (if (t303 != t307) = true then (laws_FnRootsAndCentres.j6 kj164 t301 t302 t303 true) else ((laws_nPairs.f kj164 t302 t306).bind fun t310 => (laws_FnRootsAndCentres.j6 kj164 t301 t302 t303 (!t310)))) = some r := H
                      have A207 := Aside0.mk A2070
                      clear A2070
                      have HC208 := Aside0.mk H
                      clear H
                      go_upto_region 39 with (first | ((with_reducible refine gate_callee (f := 18) rfl ?_); refine goesL_ (some 196) rfl rfl Tryz.func18 (by kernel_rfl) rfl #[.slice A1 l1.length c1] rfl lm ?_; (with_reducible refine (spec_DrawSmallPairs.calls _ _ l1 t301 _ ?side1 ?side2 A205.out).mono ?_); (case side1 => repeat (first | exact (Kd.C_below HR1.out HB.out) | (with_reducible refine Kd.C_alloc ?_ _) | (with_reducible refine Kd.C_drewN ?_ _) | (with_reducible refine Kd.C_drew ?_))); (case side2 => exact HC1.out); rintro e w209 ⟨rfl, hb⟩; refine ⟨_, rfl, ?_⟩; have n0_ := Aside0.mk (below_step (lB HB.out) hb); clear HB; have HB := n0_; clear n0_; (try clear hb); (try clear hb2); (try clear hk); (try clear hi)) | ((with_reducible refine gate_callee (f := 19) rfl ?_); refine goesL_ (some 199) rfl rfl Tryz.func19 (by kernel_rfl) rfl #[.int .i64 t301] rfl lm ?_; (with_reducible refine (impl_SmallPairs.calls t301 t302 t303 _ A206.out).mono ?_); rintro e w210 ⟨v304, rfl, ho0, hb⟩; refine ⟨_, rfl, ?_⟩; have n0_ := Aside0.mk (Kd.R_lower ho0 (below_size (lB HB.out))); have n1_ := Aside0.mk (below_step (lB HB.out) hb); clear HB; have HO305 := n0_; have HB := n1_; clear n0_ n1_; (try clear hb); (try clear hb2); (try clear hk); (try clear hi); (try clear ho0)) | ((with_reducible refine gate_callee (f := 20) rfl ?_); refine goesL_ (some 204) rfl rfl Tryz.func20 (by kernel_rfl) rfl #[.int .i64 t301] rfl lm ?_; (with_reducible refine (spec_SmallPairs.calls t301 t306 t307 _ A207.out).mono ?_); rintro e w211 ⟨v308, rfl, ho0, hb⟩; refine ⟨_, rfl, ?_⟩; have n0_ := Aside0.mk (Kd.R_elder' (by (with_reducible repeat (first | apply Kd.R_alloc | apply Kd.R_drewN | apply Kd.R_drew)); exact HO305.out) (Kd.R_base ho0) hb); have n1_ := Aside0.mk (Kd.R_lower (Kd.R_new' ho0 (Kd.R_lt (by (with_reducible repeat (first | apply Kd.R_alloc | apply Kd.R_drewN | apply Kd.R_drew)); exact HO305.out))) (below_size (lB HB.out))); have n2_ := Aside0.mk (below_step (lB HB.out) hb); clear HO305 HB; have HO305 := n0_; have HO309 := n1_; have HB := n2_; clear n0_ n1_ n2_; (try clear hb); (try clear hb2); (try clear hk); (try clear hi); (try clear ho0)))
                      (try simp only [Act.put, List.setIfInBounds_toArray, List.set_cons_zero, List.set_cons_succ])
                      go_cut [215] (fun v215 wc => ∃ (kq : Nat) (x215_207 : Bool), v215 = .bool x215_207 ∧ Aside0 (laws_FnRootsAndCentres.j6 kq t301 t302 t303 x215_207 = some r) ∧ Aside0 (kq ≤ kj164) ∧ Aside0 (Kd.R k25 25 wc w.heap.size (fun _ => True) v304 t302) ∧ Aside0 (Below w.heap.size w wc))
                      case first =>
                        as_aux_lemma =>
                          have H := HC208.out
                          clear HC208
                          by_cases c212 : (t303 != t307) = true
                          · rw [if_pos c212] at H
                            have c212b0 : (t303 != t307) = true := c212
                            (try (have c212b1 : decide (t303 = t307) = false := by simpa using c212))
                            (try (have c212b2 : (t303 == t307) = false := by simpa using c212))
                            (try (have c212b3 : ¬ (t303 = t307) := by simpa using c212))
                            clear c212
                            (first | rw [c212b0] | (simp only [i64_w, i32_w]; rw [c212b0]) | skip)
                            have H' := Aside0.mk H
                            clear H
                            go_wp2
                            go_meet
                            case rel => exact ⟨_, (true), (by first | rfl | (simp; done) | (simp [*]; done)), H', ⟨by have := HJ7.out; have := HK2.out; have := HJ151.out; have := HJ164.out; first | omega | exact Nat.le_refl _⟩, ⟨by (with_reducible repeat (first | apply Kd.R_alloc | apply Kd.R_drewN | apply Kd.R_drew)); exact Kd.R_mono HO305.out (fun _ hk => trivial)⟩, ⟨by exact lB HB.out⟩⟩
                          · rw [if_neg c212] at H
                            have c212b0 : (t303 != t307) = false := by simpa using c212
                            (try (have c212b1 : decide (t303 = t307) = true := by simpa using c212))
                            (try (have c212b2 : (t303 == t307) = true := by simpa using c212))
                            clear c212
                            (first | rw [c212b0] | (simp only [i64_w, i32_w]; rw [c212b0]) | skip)
                            replace H := Option.bind_eq_some_iff.mp H
                            obtain ⟨t310, A2130, H⟩ := H
                            replace H : (laws_FnRootsAndCentres.j6 kj164 t301 t302 t303 (!t310)) = some r := H
                            have A213 := Aside0.mk A2130
                            clear A2130
                            have H' := Aside0.mk H
                            clear H
                            obtain ⟨Ao214, co214, eo214⟩ := Kd.R_slice HO305.out
                            subst eo214
                            obtain ⟨Ao215, co215, eo215⟩ := Kd.R_slice HO309.out
                            subst eo215
                            go_wp2_with (first | (go_at_call 8; (with_reducible refine (laws_nPairs.calls kj164 _ _ t302 _ _ t306 t310 _ ?side1 ?side2 ?side3 ?side4 A213.out).mono ?_); (case side1 => repeat (first | exact (Kd.R_reads' HO305.out).2.2 | (with_reducible refine Kd.C_alloc ?_ _) | (with_reducible refine Kd.C_drewN ?_ _) | (with_reducible refine Kd.C_drew ?_))); (case side2 => exact (Kd.R_reads' HO305.out).2.1); (case side3 => repeat (first | exact (Kd.R_reads' HO309.out).2.2 | (with_reducible refine Kd.C_alloc ?_ _) | (with_reducible refine Kd.C_drewN ?_ _) | (with_reducible refine Kd.C_drew ?_))); (case side4 => exact (Kd.R_reads' HO309.out).2.1); rintro e w' ⟨rfl, ⟨nd, rfl⟩⟩))
                            go_meet
                            case rel => exact ⟨_, (!t310), (by first | rfl | (simp; done) | (simp [*]; done)), H', ⟨by have := HJ7.out; have := HK2.out; have := HJ151.out; have := HJ164.out; first | omega | exact Nat.le_refl _⟩, ⟨by (with_reducible repeat (first | apply Kd.R_alloc | apply Kd.R_drewN | apply Kd.R_drew)); exact Kd.R_mono HO305.out (fun _ hk => trivial)⟩, ⟨by exact lB HB.out⟩⟩
                      case rest =>
                        as_aux_lemma =>
                          clear HC208
                          (try clear c1)
                          obtain ⟨kq, x215_207, rfl, HA, HJ207, HO_34, HB⟩ := hcut
                          cases kq with
                          | zero => exact absurd HA.out (by simp [laws_FnRootsAndCentres.j6])
                          | succ kj207 =>
                            have H := HA.out
                            clear HA
                            simp only [laws_FnRootsAndCentres.j6] at H
                            by_cases c216 : x215_207 = true
                            · subst c216
                              have H1 : (some false) = some r := by rw [if_pos rfl] at H; exact H
                              clear H
                              have H := H1
                              clear H1
                              exact absurd ((Option.some.inj H).trans HRT.out) (by decide)
                            · replace c216 := Bool.eq_false_iff.mpr c216
                              subst c216
                              have H1 : (if t303 = true then (laws_FnRootsAndCentres.l2 kj207 t301 t302 0 0) else (some true)) = some r := by rw [if_neg (show ¬ (false = true) by decide)] at H; exact H
                              clear H
                              have H := H1
                              clear H1
                              by_cases c217 : t303 = true
                              · subst c217
                                have H1 : (laws_FnRootsAndCentres.l2 kj207 t301 t302 0 0) = some r := by rw [if_pos rfl] at H; exact H
                                clear H
                                have H := H1
                                clear H1
                                have H' := Aside0.mk H
                                clear H
                                go_wp2
                                go_loopg [38, 39] kj207 (fun kq v38 v39 w' => ∃ (x38_6 : Int) (x39_6 : Int), v38 = .int .i64 x38_6 ∧ v39 = .int .i64 x39_6 ∧ Aside0 (laws_FnRootsAndCentres.l2 kq t301 t302 x38_6 x39_6 = some r) ∧ Aside0 (kq ≤ kj207) ∧ Aside0 (Kd.R k25 25 w' w.heap.size (fun _ => True) v304 t302) ∧ Aside0 (Below w.heap.size w w'))
                                case atStart => exact ⟨(0), (0), (by first | rfl | (simp; done) | (simp [*]; done)), (by first | rfl | (simp; done) | (simp [*]; done)), H', ⟨Nat.le_refl _⟩, ⟨by (with_reducible repeat (first | apply Kd.R_alloc | apply Kd.R_drewN | apply Kd.R_drew)); exact HO_34.out⟩, ⟨by exact lB HB.out⟩⟩
                                case round =>
                                  clear H'
                                  (try clear c216)
                                  (try clear c217)
                                  obtain ⟨x38_6, x39_6, rfl, rfl, HA, HK6, HO_34, HB⟩ := hrel
                                  cases gk with
                                  | zero => exact absurd HA.out (by simp [laws_FnRootsAndCentres.l2])
                                  | succ k6 =>
                                    have H := HA.out
                                    clear HA
                                    simp only [laws_FnRootsAndCentres.l2] at H
                                    by_cases c218 : x39_6 ≤ t301
                                    · rw [if_pos c218] at H
                                      have c218b0 : decide (x39_6 ≤ t301) = true := decide_eq_true c218
                                      clear c218
                                      replace H := Option.bind_eq_some_iff.mp H
                                      obtain ⟨⟨t311, t312⟩, A2190, H⟩ := H
                                      replace H : (if t312 = true then (laws_FnRootsAndCentres.l2 k6 t301 t302 (wrap64 (x38_6 + t311)) (wrap64 (x39_6 + 1))) else (some false)) = some r := H
                                      have A219 := Aside0.mk A2190
                                      clear A2190
                                      by_cases c220 : t312 = true
                                      · subst c220
                                        have H1 : (laws_FnRootsAndCentres.l2 k6 t301 t302 (wrap64 (x38_6 + t311)) (wrap64 (x39_6 + 1))) = some r := by rw [if_pos rfl] at H; exact H
                                        clear H
                                        have H := H1
                                        clear H1
                                        have H' := Aside0.mk H
                                        clear H
                                        go_wp2_with (first | ((with_reducible refine gate_callee (f := 21) rfl ?_); refine goesL_ (some 224) rfl rfl Tryz.func21 (by kernel_rfl) rfl #[.int .i64 x39_6] rfl lm ?_; (with_reducible refine (impl_CountReduced.calls x39_6 t311 true _ A219.out).mono ?_); rintro e w221 ⟨rfl, hb⟩; refine ⟨_, rfl, ?_⟩; have n0_ := Aside0.mk (Kd.R_below (by (with_reducible repeat (first | apply Kd.R_alloc | apply Kd.R_drewN | apply Kd.R_drew)); exact HO_34.out) hb); have n1_ := Aside0.mk (below_step (lB HB.out) hb); clear HO_34 HB; have HO_34 := n0_; have HB := n1_; clear n0_ n1_; (try clear hb); (try clear hb2); (try clear hk); (try clear hi)))
                                        go_roundg k6
                                        case measure => have := HJ7.out; have := HK2.out; have := HJ151.out; have := HJ164.out; have := HJ207.out; have := HK6.out; omega
                                        case rel => exact ⟨(wrap64 (x38_6 + t311)), (wrap64 (x39_6 + 1)), (by first | rfl | (simp; done) | (simp [*]; done)), (by first | rfl | (simp; done) | (simp [*]; done)), H', ⟨by have := HJ7.out; have := HK2.out; have := HJ151.out; have := HJ164.out; have := HJ207.out; have := HK6.out; omega⟩, ⟨by (with_reducible repeat (first | apply Kd.R_alloc | apply Kd.R_drewN | apply Kd.R_drew)); exact HO_34.out⟩, ⟨by exact lB HB.out⟩⟩
                                      · replace c220 := Bool.eq_false_iff.mpr c220
                                        subst c220
                                        have H1 : (some false) = some r := by rw [if_neg (show ¬ (false = true) by decide)] at H; exact H
                                        clear H
                                        have H := H1
                                        clear H1
                                        exact absurd ((Option.some.inj H).trans HRT.out) (by decide)
                                    · rw [if_neg c218] at H
                                      have c218b0 : decide (x39_6 ≤ t301) = false := decide_eq_false c218
                                      clear c218
                                      obtain rfl := Option.some.inj H
                                      obtain ⟨Ao222, co222, eo222⟩ := Kd.R_slice HO_34.out
                                      subst eo222
                                      go_wp2
                                      go_ret
                                      exact ⟨by first | rfl | (simp [errW_none, errW_some] <;> rfl) | (simp [*, errW_none, errW_some] <;> rfl), by exact lB HB.out⟩
                              · replace c217 := Bool.eq_false_iff.mpr c217
                                subst c217
                                have H1 : (some true) = some r := by rw [if_neg (show ¬ (false = true) by decide)] at H; exact H
                                clear H
                                have H := H1
                                clear H1
                                obtain rfl := Option.some.inj H
                                go_wp2
                                go_ret
                                exact ⟨by first | rfl | (simp [errW_none, errW_some] <;> rfl) | (simp [*, errW_none, errW_some] <;> rfl), by exact lB HB.out⟩
def laws_FnRootsAndCentres.Pure : Prop := ∀ (l0 : List Int) (l1 : List Int), l0.length ≤ maxLen → l0.length * 1 ≤ 140737488351232 → (∀ x ∈ l0, (Lit.int .u8 x).wf = true) → l1.length ≤ maxLen → l1.length * 1 ≤ 140737488351232 → (∀ x ∈ l1, (Lit.int .u8 x).wf = true) → ∃ k, laws_FnRootsAndCentres.f k l0 l1 = some true
theorem laws_FnRootsAndCentres.walk (P : laws_FnRootsAndCentres.Pure) (a0 : Option Addr) (len0 cap0 : Nat) (z0 : List Int) (a1 : Option Addr) (len1 cap1 : Nat) (z1 : List Int) (w : World) (w0 : (a0 = none ∧ len0 = 0 ∧ cap0 = 0 ∧ z0 = []) ∨ ∃ x, a0 = some x ∧ len0 ≤ cap0 ∧ cap0 ≤ maxLen ∧ z0.length = cap0 ∧ (∀ i, i < z0.length → w.cell? (x.add i) = some (.int .u8 (z0.getD i 0))) ∧ ∀ n ∈ z0, (Lit.int .u8 n).wf = true) (y0 : len0 * 1 ≤ 140737488351232) (w1 : (a1 = none ∧ len1 = 0 ∧ cap1 = 0 ∧ z1 = []) ∨ ∃ x, a1 = some x ∧ len1 ≤ cap1 ∧ cap1 ≤ maxLen ∧ z1.length = cap1 ∧ (∀ i, i < z1.length → w.cell? (x.add i) = some (.int .u8 (z1.getD i 0))) ∧ ∀ n ∈ z1, (Lit.int .u8 n).wf = true) (y1 : len1 * 1 ≤ 140737488351232) :
    Calls Tryz.prog 3 #[.slice a0 len0 cap0, .slice a1 len1 cap1] w fun e w' => e = .returned (.bool true) ∧ Below w.heap.size w w' := by
  obtain ⟨l0, rfl, hr0, hm0, hw0, hc0⟩ := ReadsInt.ofRowC w0
  obtain ⟨l1, rfl, hr1, hm1, hw1, hc1⟩ := ReadsInt.ofRowC w1
  obtain ⟨k, h⟩ := P l0 l1 hm0 y0 hw0 hm1 y1 hw1
  refine (laws_FnRootsAndCentres.calls k _ _ l0 _ _ l1 true w (Kd.C_of_reads (d := (0 : Int)) (h1 := fun _ => rfl) hr0) hc0 (Kd.C_of_reads (d := (0 : Int)) (h1 := fun _ => rfl) hr1) hc1 h (Aside0.mk rfl)).mono ?_
  rintro e w' ⟨rfl, hd⟩
  exact ⟨rfl, hd⟩
end Go.Proofs.YtdcipaaclpedhaaGreat.PA
