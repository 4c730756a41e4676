import Derived.StillTactics
import Derived.Test.YtgnepbogadfinaaGreatDoorXm17
import Derived.Test.YtgnepbogadfinaaGreatDoorXm26
import Derived.Test.YtgnepbogadfinaaGreatDoorXm28
/- A part of the proof: lemmas that later parts use. -/
set_option linter.unusedVariables false
set_option linter.unusedSimpArgs false
namespace Go.Proofs.YtgnepbogadfinaaGreatDoor.PA
open Go.RowKit Go.Proofs.YtgnepbogadfinaaGreatDoorW.PrintWords
def plN (n d : Int) : Nat := n.toNat * (1099511627776 / d.toNat)
theorem plN_eq (m k : Nat) (hk : k ≤ 40) : plN (m : Int) ((2 ^ k : Nat) : Int) = m * N.part k := by
  unfold plN
  rw [show ((m : Int)).toNat = m from rfl, show (((2 ^ k : Nat) : Int)).toNat = 2 ^ k from rfl, N.part_div hk]
def impl_ValueOf.f (a0_0 : ByteArray) (a0_1 : ByteArray) (a1_0 : Int) (a1_1 : Int) : Option (Int × Int × Bool) := some (match N.pairT a0_0 a0_1 with
  | some p => if N.goodB a1_0 a1_1 = true then (match N.frF (N.vaF p.1 p.2 (plN a1_0 a1_1)) with
    | some x => ((x.1 : Int), (x.2 : Int), true)
    | none => (0, 0, false)) else (0, 0, false)
  | none => (0, 0, false))
theorem impl_ValueOf.calls (a0_0 : ByteArray) (a0_1 : ByteArray) (a1_0 : Int) (a1_1 : Int) (r1 : Int) (r2 : Int) (r3 : Bool) (w : World) (h : impl_ValueOf.f a0_0 a0_1 a1_0 a1_1 = some (r1, r2, r3)) :
    Calls Tryz.prog 6 #[.agg #[.string a0_0, .string a0_1], .agg #[.int .i64 a1_0, .int .i64 a1_1]] w fun e w' => e = .returned (.tuple #[.agg #[.int .i64 r1, .int .i64 r2], .bool r3]) ∧ Below w.heap.size w w' := by
  unfold impl_ValueOf.f at h
  rcases N.pairT_cases a0_0 a0_1 with ⟨A, B, rfl, rfl, h1, h2, e⟩ | ⟨g, e⟩
  · rw [e] at h
    have h := Option.some.inj h
    simp only at h
    split at h
    · rename_i hg
      obtain ⟨m, k, rfl, rfl, hk, hm, ho⟩ := N.goodB_true hg
      rw [plN_eq m k (by omega)] at h
      refine (N.implVal_yes A B h1 h2 m k hk hm hg w).mono ?_
      rintro e w' ⟨rfl, hx⟩
      refine ⟨?_, hx⟩
      cases hF : N.frF (N.vaF A B (m * N.part k)) with
      | none =>
        rw [hF] at h
        simp only [Prod.mk.injEq] at h
        obtain ⟨rfl, rfl, rfl⟩ := h
        rfl
      | some x =>
        rw [hF] at h
        simp only [Prod.mk.injEq] at h
        obtain ⟨rfl, rfl, rfl⟩ := h
        rfl
    · rename_i hg
      simp only [Prod.mk.injEq] at h
      obtain ⟨rfl, rfl, rfl⟩ := h
      exact N.implVal_noFrac A B h1 h2 _ _ (by simpa using hg) w
  · rw [e] at h
    simp only [Option.some.injEq, Prod.mk.injEq] at h
    obtain ⟨rfl, rfl, rfl⟩ := h
    exact N.implVal_noPair _ _ _ _ g w
def spec_mpGood.f (a0_0 : Int) (a0_1 : Int) : Option (Bool) := some (N.goodB a0_0 a0_1)
theorem spec_mpGood.calls (a0_0 : Int) (a0_1 : Int) (r : Bool) (w : World) (h : spec_mpGood.f a0_0 a0_1 = some r) :
    Calls Tryz.prog 27 #[.agg #[.int .i64 a0_0, .int .i64 a0_1]] w fun e w' => e = .returned (.bool r) ∧ Below w.heap.size w w' := by
  obtain rfl := Option.some.inj h
  exact N.mpGood_calls a0_0 a0_1 w
def spec_trAddresses.f (a0 : ByteArray) (a1 : ByteArray) : Option (List ByteArray) := (N.parseT a0).bind fun T => if T.carets ≤ 50 ∧ a1.size = 0 then some ((N.addrs T []).map N.S) else none
theorem spec_trAddresses.calls (a0 : ByteArray) (a1 : ByteArray) (r : List ByteArray) (w : World) (h : spec_trAddresses.f a0 a1 = some r) :
    Calls Tryz.prog 38 #[.string a0, .string a1] w fun e w' => ∃ v0_ : Value, e = .returned (v0_) ∧ Kd.R Kd.string 9 w' w.heap.size (fun _ => True) v0_ r ∧ Below w.heap.size w w' := by
  unfold spec_trAddresses.f at h
  cases e : N.parseT a0 with
  | none => rw [e] at h; cases h
  | some T =>
    rw [e, Option.bind_some] at h
    split at h
    · rename_i hg
      obtain rfl := Option.some.inj h
      rw [N.parseT_some e]
      have hz : a1.toList = [] := List.eq_nil_of_length_eq_zero (by rw [N.s_len]; exact hg.2)
      have h1 : a1 = N.S [] := by rw [N.S_of a1, hz]
      refine (N.trAddresses_calls T [] a1 w (by have := T.depth_le; omega) (by omega) (by simp; omega) h1).mono ?_
      rintro e w' ⟨v, rfl, ho, hx⟩
      exact ⟨v, rfl, N.kdR_of_ownS (by rw [show N.strs ((N.addrs T []).map N.S) = N.sls (N.addrs T []) by simp [N.strs, N.sls, Function.comp_def]]; exact ho), hx⟩
    · cases h
end Go.Proofs.YtgnepbogadfinaaGreatDoor.PA
namespace Go.Proofs.YtgnepbogadfinaaGreatDoor.PA
open Go.RowKit Go.Proofs.YtgnepbogadfinaaGreatDoorW.PrintWords Go.Proofs.YtgnepbogadfinaaGreatDoorW.PrintLast Go.Proofs.YtgnepbogadfinaaGreatDoorW.PrintMore
attribute [local go_sem] max2_int min2_int max_two min_two max_three min_three max_four min_four
mutual
def spec_DrawImageOfAddress.j0 : Nat → Bool → List Int → Int → Int → ByteArray → ByteArray → Option (ByteArray × ByteArray × ByteArray)
  | 0, _, _, _, _, _, _ => none
  | k + 1, x20, x244000, x244001, x244002, x249000, x249001 => if x20 = true then ((spec_l1Cur_of.f x244000 x244001 x244002 (([(⟨#[]⟩ : ByteArray), (⟨#[48]⟩ : ByteArray), (⟨#[49]⟩ : ByteArray), (⟨#[48, 49]⟩ : ByteArray), (⟨#[49, 49, 48]⟩ : ByteArray), (⟨#[50]⟩ : ByteArray), (⟨#[48, 48, 48, 48, 48, 48, 48, 48, 48, 48, 48]⟩ : ByteArray)] : List ByteArray))).bind fun bt256 => (some (x249000, x249001, bt256.1))) else ((spec_trAddresses.f x249000 (⟨#[]⟩ : ByteArray)).bind fun t259 => ((spec_l1Cur_pick.f x244000 x244001 x244002 (t259.length : Int)).bind fun bt262 => (if 0 ≤ bt262.1 then (if bt262.1 < (t259.length : Int) then ((spec_l1Cur_pick.f x244000 bt262.2.1 bt262.2.2 4).bind fun bt266 => (spec_DrawImageOfAddress.l0 k (rdOf ByteArray.empty t259 bt262.1) bt266.1 x244000 bt266.2.1 bt266.2.2 x249000 x249001)) else (none)) else (none))))
def spec_DrawImageOfAddress.l0 : Nat → ByteArray → Int → List Int → Int → Int → ByteArray → ByteArray → Option (ByteArray × ByteArray × ByteArray)
  | 0, _, _, _, _, _, _, _ => none
  | k + 1, x7, x8, x244000, x244001, x244002, x249000, x249001 => if x8 > 0 then ((spec_l1Cur_of.f x244000 x244001 x244002 (([(⟨#[48]⟩ : ByteArray), (⟨#[49]⟩ : ByteArray)] : List ByteArray))).bind fun bt272 => (if x7.size + bt272.1.size ≤ 9223372036854775807 then (spec_DrawImageOfAddress.l0 k (x7 ++ bt272.1) (wrap64 (x8 - 1)) x244000 bt272.2.1 bt272.2.2 x249000 x249001) else (none))) else (some (x249000, x249001, x7))
end
def spec_DrawImageOfAddress.f (k : Nat) (l0 : List Int) : Option (ByteArray × ByteArray × ByteArray) := (spec_l1Cur_pair.f k l0 0 0 5).bind fun bt244 => ((spec_prGood.f bt244.1 bt244.2.1).bind fun t249 => (if t249 = true then ((spec_l1Cur_one.f l0 bt244.2.2.1 bt244.2.2.2 4).bind fun bt250 => (spec_DrawImageOfAddress.j0 k bt250.1 l0 bt250.2.1 bt250.2.2 bt244.1 bt244.2.1)) else (spec_DrawImageOfAddress.j0 k true l0 bt244.2.2.1 bt244.2.2.2 bt244.1 bt244.2.1)))
set_option maxHeartbeats 8000000 in
set_option maxRecDepth 100000 in
theorem spec_DrawImageOfAddress.calls (k : Nat) (A0 : Option Addr) (c0 : Nat) (l0 : List Int) (r1 : ByteArray) (r2 : ByteArray) (r3 : ByteArray) (w : World) (hr0 : Kd.C (Kd.int .u8) w A0 l0.length l0) (hc0 : l0.length ≤ c0) (h : spec_DrawImageOfAddress.f k l0 = some (r1, r2, r3)) :
    Calls Tryz.prog 12 #[.slice A0 l0.length c0] w fun e w' => e = .returned (.tuple #[.agg #[.string r1, .string r2], .string r3]) ∧ Below w.heap.size w w' := by
  have hu25 := Tryz.underlying25
  have hu48 := Tryz.underlying48
  have HR0 := Aside0.mk hr0
  have HC0 := Aside0.mk hc0
  clear hr0 hc0
  have HB := Aside0.mk (Below.refl w.heap.size w)
  have H : ((spec_l1Cur_pair.f k l0 0 0 5).bind fun bt244 => ((spec_prGood.f bt244.1 bt244.2.1).bind fun t249 => (if t249 = true then ((spec_l1Cur_one.f l0 bt244.2.2.1 bt244.2.2.2 4).bind fun bt250 => (spec_DrawImageOfAddress.j0 k bt250.1 l0 bt250.2.1 bt250.2.2 bt244.1 bt244.2.1)) else (spec_DrawImageOfAddress.j0 k true l0 bt244.2.2.1 bt244.2.2.2 bt244.1 bt244.2.1)))) = some (r1, r2, r3) := h
  clear h
  replace H := Option.bind_eq_some_iff.mp H
  obtain ⟨⟨t244, t245, t246, t247⟩, A20, H⟩ := H
  replace H : ((spec_prGood.f t244 t245).bind fun t249 => (if t249 = true then ((spec_l1Cur_one.f l0 t246 t247 4).bind fun bt250 => (spec_DrawImageOfAddress.j0 k bt250.1 l0 bt250.2.1 bt250.2.2 t244 t245)) else (spec_DrawImageOfAddress.j0 k true l0 t246 t247 t244 t245))) = some (r1, r2, r3) := H
  have A2 := Aside0.mk A20
  clear A20
  have HC3 := Aside0.mk H
  clear H
  go_enter Tryz.func12, Tryz.ntmps12
  go_upto_region 3 with (first | ((with_reducible refine gate_dst (N := 2) rfl ?_); refine box_event ?hg (N := 2) ?hd (cs := #[.string (⟨#[]⟩ : ByteArray), .string (⟨#[]⟩ : ByteArray)]) (t := 25) ?hr ?_; (case hd => rfl); (case hg => rfl); (case hr => exact lr); intro gb242 hg w4 hbox hb; have n0_ := Aside0.mk (below_step (lB HB.out) hb); have n1_ := Aside0.mk (hbox); have n2_ := gw hg (lB HB.out); have n3_ := gw hg (lB HB.out); clear HB; have HB := n0_; have BK242 := n1_; have GW242 := n2_; have GE242 := n3_; clear n0_ n1_ n2_ n3_; clear hb hbox hg) | ((with_reducible refine gate_dst (N := 11) rfl ?_); refine box_event ?hg (N := 11) ?hd (cs := #[.slice A0 l0.length c0, .int .i64 0, .int .u64 0]) (t := 48) ?hr ?_; (case hd => rfl); (case hg => rfl); (case hr => exact lr); intro gb243 hg w5 hbox hb; have n0_ := Aside0.mk (blk_below (lb BK242.out) hb); have n1_ := Aside0.mk (below_step (lB HB.out) hb); have n2_ := gw hg (lB HB.out); have n3_ := gw hg (lB HB.out); have n4_ := na hg (lb BK242.out); have n5_ := nz hg (lb BK242.out); have n6_ := Aside0.mk ((show IsS48 w w5 gb243 l0 0 0 from ⟨_, _, hbox, (by rw [hg]; exact (below_size (lB HB.out)) : w.heap.size ≤ gb243), HR0.out⟩)); clear BK242 HB; have BK242 := n0_; have HB := n1_; have GW243 := n2_; have GE243 := n3_; have NB242_243 := n4_; have NB243_242 := n5_; have HI243 := n6_; clear n0_ n1_ n2_ n3_ n4_ n5_ n6_; clear hb hbox hg) | ((with_reducible refine gate_callee (f := 19) rfl ?_); refine goesL_ (some 13) rfl rfl Tryz.func19 (by kernel_rfl) rfl #[.pointer (some ⟨gb243, 0, none⟩), .int .i64 5] rfl lm ?_; (with_reducible refine (spec_l1Cur_pair.calls k gb243 l0 0 0 5 t244 t245 t246 t247 w _ ?side1 ?side2 A2.out).mono ?_); (case side1 => exact lI48 HI243.out); (case side2 => exact lB HB.out); rintro e w6 ⟨rfl, hi, hb, hk⟩; refine ⟨_, rfl, ?_⟩; have n0_ := Aside0.mk (KeepBut.blk hk (g' := gb242) (o := .cells #[.string (⟨#[]⟩ : ByteArray), .string (⟨#[]⟩ : ByteArray)] 25 (0, 0)) (lb BK242.out) NB242_243.out (by simp)); have n1_ := Aside0.mk (hb); have n2_ := Aside0.mk (hi); clear BK242 HB HI243; have BK242 := n0_; have HB := n1_; have HI243 := n2_; clear n0_ n1_ n2_; (try clear hb); (try clear hb2); (try clear hk); (try clear hi)) | ((with_reducible refine gate_dst (N := 5) rfl ?_); refine box_event ?hg (N := 5) ?hd (cs := #[.string (⟨#[]⟩ : ByteArray), .string (⟨#[]⟩ : ByteArray)]) (t := 25) ?hr ?_; (case hd => rfl); (case hg => rfl); (case hr => exact lr); intro gb248 hg w7 hbox hb; have n0_ := Aside0.mk (blk_below (lb BK242.out) hb); have n1_ := Aside0.mk (IsS48.below (lI48 HI243.out) hb); have n2_ := Aside0.mk (below_step (lB HB.out) hb); have n3_ := Aside0.mk (hbox); have n4_ := gw hg (lB HB.out); have n5_ := gw hg (lB HB.out); have n6_ := na hg (lb BK242.out); have n7_ := nz hg (lb BK242.out); have n8_ := Aside0.mk ((by rw [hg]; exact Nat.ne_of_lt (IsS48.lt (show IsS48 w _ gb243 l0 t246 t247 from by exact lI48 HI243.out)) : gb243 ≠ gb248)); have n9_ := Aside0.mk ((by rw [hg]; exact Nat.ne_of_gt (IsS48.lt (show IsS48 w _ gb243 l0 t246 t247 from by exact lI48 HI243.out)) : gb248 ≠ gb243)); clear BK242 HI243 HB; have BK242 := n0_; have HI243 := n1_; have HB := n2_; have BK248 := n3_; have GW248 := n4_; have GE248 := n5_; have NB242_248 := n6_; have NB248_242 := n7_; have NB243_248 := n8_; have NB248_243 := n9_; clear n0_ n1_ n2_ n3_ n4_ n5_ n6_ n7_ n8_ n9_; clear hb hbox hg; have hnb8 := NB248_242.out; have hnc8 := NB242_248.out; have hnb9 := NB248_243.out; have hnc9 := NB243_248.out; have hcz10_0 : w7.cell? ⟨gb248, 0, none⟩ = some (.string (⟨#[]⟩ : ByteArray)) := (blk_cell BK248.out 0).trans rfl; have hcz10_1 : w7.cell? ⟨gb248, 1, none⟩ = some (.string (⟨#[]⟩ : ByteArray)) := (blk_cell BK248.out 1).trans rfl; have hfz10_0 := blk_frozen BK248.out 0; have hfz10_1 := blk_frozen BK248.out 1))
  (try simp only [Act.put, List.setIfInBounds_toArray, List.set_cons_zero, List.set_cons_succ])
  go_cut [20] (fun v20 wc => ∃ (kq : Nat) (x20_2 : Bool) (x244001_2 : Int) (x244002_2 : Int), v20 = .bool x20_2 ∧ Aside0 (spec_DrawImageOfAddress.j0 kq x20_2 l0 x244001_2 x244002_2 t244 t245 = some (r1, r2, r3)) ∧ Aside0 (kq ≤ k) ∧ Aside0 (wc.heap[gb242]? = some (.cells #[.string (⟨#[]⟩ : ByteArray), .string (⟨#[]⟩ : ByteArray)] 25 (0, 0))) ∧ Aside0 (wc.heap[gb248]? = some (.cells #[.string t244, .string t245] 25 (0, 0))) ∧ Aside0 (IsS48 w wc gb243 l0 x244001_2 x244002_2) ∧ Aside0 (Below w.heap.size w wc))
  case first =>
   have H := HC3.out
   clear HC3
   replace H := Option.bind_eq_some_iff.mp H
   obtain ⟨t249, A110, H⟩ := H
   replace H : (if t249 = true then ((spec_l1Cur_one.f l0 t246 t247 4).bind fun bt250 => (spec_DrawImageOfAddress.j0 k bt250.1 l0 bt250.2.1 bt250.2.2 t244 t245)) else (spec_DrawImageOfAddress.j0 k true l0 t246 t247 t244 t245)) = some (r1, r2, r3) := H
   have A11 := Aside0.mk A110
   clear A110
   by_cases c12 : t249 = true
   rotate_left
   · replace c12 := Bool.eq_false_iff.mpr c12
     subst c12
     rw [if_neg (show ¬ (false = true) by decide)] at H
     have H' := Aside0.mk H
     clear H
     have hnb19 := NB248_242.out
     have hnc19 := NB242_248.out
     have hnb20 := NB248_243.out
     have hnc20 := NB243_248.out
     have hcz21_0 : w7.cell? ⟨gb248, 0, none⟩ = some (.string (⟨#[]⟩ : ByteArray)) := (blk_cell BK248.out 0).trans rfl
     have hcz21_1 : w7.cell? ⟨gb248, 1, none⟩ = some (.string (⟨#[]⟩ : ByteArray)) := (blk_cell BK248.out 1).trans rfl
     have hfz21_0 := blk_frozen BK248.out 0
     have hfz21_1 := blk_frozen BK248.out 1
     go_wp2_with (first | ((with_reducible refine gate_callee (f := 26) rfl ?_); refine goesL_ (some 15) rfl rfl Tryz.func26 (by kernel_rfl) rfl #[.agg #[.string t244, .string t245]] rfl lm ?_; (with_reducible refine (spec_prGood.calls t244 t245 false _ A11.out).mono ?_); rintro e w22 ⟨rfl, hb⟩; refine ⟨_, rfl, ?_⟩; have n0_ := Aside0.mk (blk_below (g := gb242) (o := .cells #[.string (⟨#[]⟩ : ByteArray), .string (⟨#[]⟩ : ByteArray)] 25 (0, 0)) (by (with_reducible repeat (first | refine blk_drewN ?_ _ | refine blk_drew ?_ | refine blk_alloc ?_ _)); refine blk_far ?_ NB242_248.out _; (with_reducible repeat (first | refine blk_drewN ?_ _ | refine blk_drew ?_ | refine blk_alloc ?_ _)); refine blk_far ?_ NB242_248.out _; exact lb BK242.out) hb); have n1_ := Aside0.mk (IsS48.below (show IsS48 w ((w7.setCell ⟨gb248, 0, none⟩ (.string t244)).setCell ⟨gb248, 1, none⟩ (.string t245)) gb243 l0 t246 t247 from by exact lI48 HI243.out) hb); have n2_ := Aside0.mk (blk_below (g := gb248) (o := .cells #[.string t244, .string t245] 25 (0, 0)) (by (with_reducible repeat (first | refine blk_drewN ?_ _ | refine blk_drew ?_ | refine blk_alloc ?_ _)); refine blk_put (cs := #[.string t244, .string (⟨#[]⟩ : ByteArray)]) ?_ 1 _ rfl; (with_reducible repeat (first | refine blk_drewN ?_ _ | refine blk_drew ?_ | refine blk_alloc ?_ _)); refine blk_put (cs := #[.string (⟨#[]⟩ : ByteArray), .string (⟨#[]⟩ : ByteArray)]) ?_ 0 _ rfl; exact lb BK248.out) hb); have n3_ := Aside0.mk (below_step (lB HB.out) hb); clear BK242 HI243 BK248 HB; have BK242 := n0_; have HI243 := n1_; have BK248 := n2_; have HB := n3_; clear n0_ n1_ n2_ n3_; (try clear hb); (try clear hb2); (try clear hk); (try clear hi)))
     go_meet
     case rel => exact ⟨_, (true), (t246), (t247), (by first | rfl | (simp; done) | (simp [*]; done)), H', ⟨by first | omega | exact Nat.le_refl _⟩, ⟨lb BK242.out⟩, ⟨lb BK248.out⟩, ⟨by exact lI48 HI243.out⟩, ⟨by exact lB HB.out⟩⟩
   subst c12
   rw [if_pos rfl] at H
   replace H := Option.bind_eq_some_iff.mp H
   obtain ⟨⟨t250, t251, t252⟩, A130, H⟩ := H
   replace H : (spec_DrawImageOfAddress.j0 k t250 l0 t251 t252 t244 t245) = some (r1, r2, r3) := H
   have A13 := Aside0.mk A130
   clear A130
   have H' := Aside0.mk H
   clear H
   have hnb14 := NB248_242.out
   have hnc14 := NB242_248.out
   have hnb15 := NB248_243.out
   have hnc15 := NB243_248.out
   have hcz16_0 : w7.cell? ⟨gb248, 0, none⟩ = some (.string (⟨#[]⟩ : ByteArray)) := (blk_cell BK248.out 0).trans rfl
   have hcz16_1 : w7.cell? ⟨gb248, 1, none⟩ = some (.string (⟨#[]⟩ : ByteArray)) := (blk_cell BK248.out 1).trans rfl
   have hfz16_0 := blk_frozen BK248.out 0
   have hfz16_1 := blk_frozen BK248.out 1
   go_wp2_with (first | ((with_reducible refine gate_callee (f := 26) rfl ?_); refine goesL_ (some 15) rfl rfl Tryz.func26 (by kernel_rfl) rfl #[.agg #[.string t244, .string t245]] rfl lm ?_; (with_reducible refine (spec_prGood.calls t244 t245 true _ A11.out).mono ?_); rintro e w17 ⟨rfl, hb⟩; refine ⟨_, rfl, ?_⟩; have n0_ := Aside0.mk (blk_below (g := gb242) (o := .cells #[.string (⟨#[]⟩ : ByteArray), .string (⟨#[]⟩ : ByteArray)] 25 (0, 0)) (by (with_reducible repeat (first | refine blk_drewN ?_ _ | refine blk_drew ?_ | refine blk_alloc ?_ _)); refine blk_far ?_ NB242_248.out _; (with_reducible repeat (first | refine blk_drewN ?_ _ | refine blk_drew ?_ | refine blk_alloc ?_ _)); refine blk_far ?_ NB242_248.out _; exact lb BK242.out) hb); have n1_ := Aside0.mk (IsS48.below (show IsS48 w ((w7.setCell ⟨gb248, 0, none⟩ (.string t244)).setCell ⟨gb248, 1, none⟩ (.string t245)) gb243 l0 t246 t247 from by exact lI48 HI243.out) hb); have n2_ := Aside0.mk (blk_below (g := gb248) (o := .cells #[.string t244, .string t245] 25 (0, 0)) (by (with_reducible repeat (first | refine blk_drewN ?_ _ | refine blk_drew ?_ | refine blk_alloc ?_ _)); refine blk_put (cs := #[.string t244, .string (⟨#[]⟩ : ByteArray)]) ?_ 1 _ rfl; (with_reducible repeat (first | refine blk_drewN ?_ _ | refine blk_drew ?_ | refine blk_alloc ?_ _)); refine blk_put (cs := #[.string (⟨#[]⟩ : ByteArray), .string (⟨#[]⟩ : ByteArray)]) ?_ 0 _ rfl; exact lb BK248.out) hb); have n3_ := Aside0.mk (below_step (lB HB.out) hb); clear BK242 HI243 BK248 HB; have BK242 := n0_; have HI243 := n1_; have BK248 := n2_; have HB := n3_; clear n0_ n1_ n2_ n3_; (try clear hb); (try clear hb2); (try clear hk); (try clear hi)) | (go_at_call 36; (with_reducible refine (spec_l1Cur_one.calls gb243 l0 t246 t247 4 t250 t251 t252 w _ ?side1 ?side2 A13.out).mono ?_); (case side1 => exact lI48 HI243.out); (case side2 => exact lB HB.out); rintro e w18 ⟨rfl, hi, hb, hk⟩; have n0_ := Aside0.mk (KeepBut.blk hk (g' := gb242) (o := .cells #[.string (⟨#[]⟩ : ByteArray), .string (⟨#[]⟩ : ByteArray)] 25 (0, 0)) (lb BK242.out) NB242_243.out (by simp)); have n1_ := Aside0.mk (KeepBut.blk hk (g' := gb248) (o := .cells #[.string t244, .string t245] 25 (0, 0)) (lb BK248.out) NB248_243.out (by simp)); have n2_ := Aside0.mk (hb); have n3_ := Aside0.mk (hi); clear BK242 BK248 HB HI243; have BK242 := n0_; have BK248 := n1_; have HB := n2_; have HI243 := n3_; clear n0_ n1_ n2_ n3_; (try clear hb); (try clear hb2); (try clear hk); (try clear hi)))
   go_meet
   case rel => exact ⟨_, (t250), (t251), (t252), (by first | rfl | (simp; done) | (simp [*]; done)), H', ⟨by first | omega | exact Nat.le_refl _⟩, ⟨lb BK242.out⟩, ⟨lb BK248.out⟩, ⟨by exact lI48 HI243.out⟩, ⟨by exact lB HB.out⟩⟩
  case rest =>
  clear HC3
  (try clear hcz10_0); (try clear hcz10_1); (try clear hfz10_0); (try clear hfz10_1)
  obtain ⟨kq, x20_2, x244001_2, x244002_2, rfl, HA, HJ2, BK242, BK248, HI243, HB⟩ := hcut
  cases kq with
  | zero => exact absurd HA.out (by simp [spec_DrawImageOfAddress.j0])
  | succ kj2 =>
   have H := HA.out
   clear HA
   simp only [spec_DrawImageOfAddress.j0] at H
   by_cases c23 : x20_2 = true
   · subst c23
     rw [if_pos rfl] at H
     obtain ⟨y253, hy253⟩ : ∃ y_ : List ByteArray, y_ = (([(⟨#[]⟩ : ByteArray), (⟨#[48]⟩ : ByteArray), (⟨#[49]⟩ : ByteArray), (⟨#[48, 49]⟩ : ByteArray), (⟨#[49, 49, 48]⟩ : ByteArray), (⟨#[50]⟩ : ByteArray), (⟨#[48, 48, 48, 48, 48, 48, 48, 48, 48, 48, 48]⟩ : ByteArray)] : List ByteArray)) := ⟨_, rfl⟩
     replace H : ((spec_l1Cur_of.f l0 x244001_2 x244002_2 y253).bind fun bt256 => (some (t244, t245, bt256.1))) = some (r1, r2, r3) := by first | (rw [hy253]; with_reducible exact H) | (have H2_ := (Option.bind_some _ _).symm.trans H; rw [hy253]; with_reducible exact H2_) | (have H2_ := (Option.bind_some _ _).symm.trans H; with_reducible exact H2_) | with_reducible exact H | (rw [hy253]; exact H) | exact H
     have Ny253 := Aside0.mk hy253
     clear hy253
     replace H := Option.bind_eq_some_iff.mp H
     obtain ⟨⟨t256, t257, t258⟩, A240, H⟩ := H
     replace H : (some (t244, t245, t256)) = some (r1, r2, r3) := H
     have A24 := Aside0.mk A240
     clear A240
     simp only [Option.some.injEq, Prod.mk.injEq] at H
     obtain ⟨rfl, rfl, rfl⟩ := H
     try go_wp2
     have n0_ := Aside0.mk (blk_drew BK242.out)
     have n1_ := Aside0.mk (blk_drew BK248.out)
     have n2_ := Aside0.mk (IsS48.drew HI243.out)
     have n3_ := Aside0.mk (below_drew1 HB.out)
     clear BK242
     clear BK248
     clear HI243
     clear HB
     have BK242 := n0_
     have BK248 := n1_
     have HI243 := n2_
     have HB := n3_
     clear n0_ n1_ n2_ n3_
     refine start_ (n := 6) (S := fun w' => w'.cell? ⟨gb248, 0, none⟩ = some (.string t244) ∧ w'.cell? ⟨gb248, 1, none⟩ = some (.string t245)) (ds := []) #[false, false, false, false, false, false] (by kernel_rfl) rfl rfl ⟨(blk_cell BK248.out 0).trans rfl, (blk_cell BK248.out 1).trans rfl⟩ (fun hHeld => ?_)
     generalize wc.drew = w25 at BK242 BK248 HI243 HB hHeld ⊢
     refine pure_ (i := 1) (N := some 22) (v := ?_) (a' := ?_) #[false, true, false, false, false, false] rfl rfl (by kernel_rfl) (fun _ _ _ h => h) (Or.inl ⟨by rfl, ?_⟩) ?_ ?_
     rotate_left
     · intro w'
       go_simp
       with_reducible rfl
     rotate_left
     · simp only [Act.put, List.setIfInBounds_toArray, List.set_cons_zero, List.set_cons_succ, i64_w, i32_w]
       rfl
     refine take_ (i := 0) (N := some 21) (v := ?_) (a' := ?_) #[true, true, false, false, false, false] rfl rfl (by kernel_rfl) (fun _ _ _ h => h) (Or.inl ⟨by rfl, ?_⟩) hHeld ?_ ?_
     rotate_left
     · rintro w' ⟨s0, s1⟩
       go_simp
       with_reducible rfl
     rotate_left
     · simp only [Act.put, List.setIfInBounds_toArray, List.set_cons_zero, List.set_cons_succ, i64_w, i32_w]
       rfl
     refine one_ (i := 2) (N := some 23) #[true, true, true, false, false, false] rfl rfl (by kernel_rfl) (by decide) (fun K hK => ?_)
     refine Kd.R_lit_step Kd.string _ 9 ?hg (N := 23) ?hd (xs := ([(⟨#[]⟩ : ByteArray), (⟨#[48]⟩ : ByteArray), (⟨#[49]⟩ : ByteArray), (⟨#[48, 49]⟩ : ByteArray), (⟨#[49, 49, 48]⟩ : ByteArray), (⟨#[50]⟩ : ByteArray), (⟨#[48, 48, 48, 48, 48, 48, 48, 48, 48, 48, 48]⟩ : ByteArray)] : List ByteArray)) (inner := [.string (⟨#[]⟩ : ByteArray), .string (⟨#[48]⟩ : ByteArray), .string (⟨#[49]⟩ : ByteArray), .string (⟨#[48, 49]⟩ : ByteArray), .string (⟨#[49, 49, 48]⟩ : ByteArray), .string (⟨#[50]⟩ : ByteArray), .string (⟨#[48, 48, 48, 48, 48, 48, 48, 48, 48, 48, 48]⟩ : ByteArray)]) (ok := fun _ => True) (okp := fun _ => True) ?hr ?hp (fun _ hk => hk) trivial (Below.refl _ _) (Nat.le_refl _) (by simp) ?_; (case hd => rfl); (case hg => rfl); (case hr => exact lr); (case hp => exact (Reps.one (show Kd.M Kd.string _ _ _ (⟨#[]⟩ : ByteArray) [.string (⟨#[]⟩ : ByteArray)] from rfl) (Reps.one (show Kd.M Kd.string _ _ _ (⟨#[48]⟩ : ByteArray) [.string (⟨#[48]⟩ : ByteArray)] from rfl) (Reps.one (show Kd.M Kd.string _ _ _ (⟨#[49]⟩ : ByteArray) [.string (⟨#[49]⟩ : ByteArray)] from rfl) (Reps.one (show Kd.M Kd.string _ _ _ (⟨#[48, 49]⟩ : ByteArray) [.string (⟨#[48, 49]⟩ : ByteArray)] from rfl) (Reps.one (show Kd.M Kd.string _ _ _ (⟨#[49, 49, 48]⟩ : ByteArray) [.string (⟨#[49, 49, 48]⟩ : ByteArray)] from rfl) (Reps.one (show Kd.M Kd.string _ _ _ (⟨#[50]⟩ : ByteArray) [.string (⟨#[50]⟩ : ByteArray)] from rfl) (Reps.one (show Kd.M Kd.string _ _ _ (⟨#[48, 48, 48, 48, 48, 48, 48, 48, 48, 48, 48]⟩ : ByteArray) [.string (⟨#[48, 48, 48, 48, 48, 48, 48, 48, 48, 48, 48]⟩ : ByteArray)] from rfl) (Reps.none _ _)))))))))
     intro v254 w26 ho27 hb hg_ hnew_
     clear hg_ hnew_
     (first | rw [← Ny253.out] at ho27 | (simp only [Int.reduceToNat] at ho27; rw [← Ny253.out] at ho27))
     have n0_ := Aside0.mk (Kd.R_lower ho27 (below_size (lB HB.out)))
     have n1_ := Aside0.mk (blk_below (lb BK242.out) hb)
     have n2_ := Aside0.mk (blk_below (lb BK248.out) hb)
     have n3_ := Aside0.mk (IsS48.below (lI48 HI243.out) hb)
     have n4_ := Aside0.mk (below_step (lB HB.out) hb)
     clear BK242
     clear BK248
     clear HI243
     clear HB
     have HO255 := n0_
     have BK242 := n1_
     have BK248 := n2_
     have HI243 := n3_
     have HB := n4_
     clear n0_ n1_ n2_ n3_ n4_
     clear hb ho27
     obtain ⟨Ao28, co28, eo28⟩ := Kd.R_slice HO255.out
     (first | subst eo28 | (injection eo28 with f1_ f2_ f3_; have f4_ := f1_.symm; have f5_ := f3_.symm; clear f1_ f2_ f3_; subst f4_; subst f5_))
     refine hK.out _ _ ⟨(blk_cell BK248.out 0).trans rfl, (blk_cell BK248.out 1).trans rfl⟩ (fun hHeld => ?_)
     clear hK K
     refine norm_ (a' := ?_) ?_ ?_
     rotate_left
     · show Act.put _ (some 23) _ = _
       simp only [Act.put, List.setIfInBounds_toArray, List.set_cons_zero, List.set_cons_succ, i64_w, i32_w]
       rfl
     refine one_ (i := 3) (N := some 24) #[true, true, true, true, false, false] rfl rfl (by kernel_rfl) (by decide) (fun K hK => ?_)
     refine goes_ Tryz.func37 (by kernel_rfl) rfl #[.pointer (some ⟨gb243, 0, none⟩), .slice Ao28 y253.length co28] (by rfl) rfl rfl lm ?_
     with_reducible refine (spec_l1Cur_of.calls gb243 l0 x244001_2 x244002_2 _ _ y253 t256 t257 t258 w _ ?side1 ?side2 ?side3 ?side4 ?side5 A24.out).mono ?_
     (case side1 => exact lI48 HI243.out)
     (case side2 => exact lB HB.out)
     (case side3 => repeat (first | exact (Kd.R_reads' HO255.out).2.2 | (with_reducible refine Kd.C_alloc ?_ _) | (with_reducible refine Kd.C_drewN ?_ _) | (with_reducible refine Kd.C_drew ?_)))
     (case side4 => exact (Kd.R_reads' HO255.out).2.1)
     (case side5 => exact far_slice (IsS48.own_ne HI243.out HO255.out (by decide)))
     rintro e w29 ⟨rfl, hi, hb, hk⟩
     refine ⟨_, rfl, ?_⟩
     have n0_ := Aside0.mk (KeepBut.blk hk (g' := gb242) (o := .cells #[.string (⟨#[]⟩ : ByteArray), .string (⟨#[]⟩ : ByteArray)] 25 (0, 0)) (lb BK242.out) NB242_243.out (by simp))
     have n1_ := Aside0.mk (KeepBut.blk hk (g' := gb248) (o := .cells #[.string t244, .string t245] 25 (0, 0)) (lb BK248.out) NB248_243.out (by simp))
     have n2_ := Aside0.mk (Kd.R_mono (Kd.R_keep (IsS48.apart (show IsS48 w _ gb243 l0 x244001_2 x244002_2 from by exact lI48 HI243.out) (by (with_reducible repeat (first | apply Kd.R_alloc | apply Kd.R_drewN | apply Kd.R_drew)); exact HO255.out) (by decide)) hk (fun _ h => h.2)) (fun _ h => h.1))
     have n3_ := Aside0.mk (hb)
     have n4_ := Aside0.mk (hi)
     clear BK242
     clear BK248
     clear HO255
     clear HB
     clear HI243
     have BK242 := n0_
     have BK248 := n1_
     have HO255 := n2_
     have HB := n3_
     have HI243 := n4_
     clear n0_ n1_ n2_ n3_ n4_
     (try clear hb); (try clear hb2); (try clear hk); (try clear hi)
     refine hK.out _ _ ⟨(blk_cell BK248.out 0).trans rfl, (blk_cell BK248.out 1).trans rfl⟩ (fun hHeld => ?_)
     clear hK K
     refine norm_ (a' := ?_) ?_ ?_
     rotate_left
     · show Act.put _ (some 24) _ = _
       simp only [Act.put, List.setIfInBounds_toArray, List.set_cons_zero, List.set_cons_succ, i64_w, i32_w]
       rfl
     refine one_ (i := 4) (N := none) #[true, true, true, true, true, false] rfl rfl (by kernel_rfl) (by decide) (fun K hK => ?_)
     have hs30 : w29.cell? ⟨gb242, 0, none⟩ = some (.string (⟨#[]⟩ : ByteArray)) := (blk_cell BK242.out 0).trans rfl
     have hfs30 := blk_frozen BK242.out 0
     have hns30_1 := NB248_242.out
     have hms30_1 := NB242_248.out
     have hs31 : w29.cell? ⟨gb242, 1, none⟩ = some (.string (⟨#[]⟩ : ByteArray)) := (blk_cell BK242.out 1).trans rfl
     have hfs31 := blk_frozen BK242.out 1
     have hns31_1 := NB248_242.out
     have hms31_1 := NB242_248.out
     refine skip_ (w1 := ?_) (by rfl) rfl ?_ ?_
     rotate_left
     · go_simp
       rfl
     refine hK.out _ _ ⟨((cell_far (p := ⟨gb242, _, none⟩) NB248_242.out _).trans (((cell_far (p := ⟨gb242, _, none⟩) NB248_242.out _).trans (hHeld.1)))), ((cell_far (p := ⟨gb242, _, none⟩) NB248_242.out _).trans (((cell_far (p := ⟨gb242, _, none⟩) NB248_242.out _).trans (hHeld.2))))⟩ (fun hHeld => ?_)
     clear hK K
     refine pure_ (i := 5) (N := some 3) (v := ?_) (a' := ?_) #[true, true, true, true, true, true] rfl rfl (by kernel_rfl) (fun _ _ _ h => h) (Or.inl ⟨by rfl, ?_⟩) ?_ ?_
     rotate_left
     · intro w'
       go_simp
       with_reducible rfl
     rotate_left
     · simp only [Act.put, List.setIfInBounds_toArray, List.set_cons_zero, List.set_cons_succ, i64_w, i32_w]
       rfl
     refine done_ (by kernel_rfl) ?_
     try go_wp2
     refine bodyPost_ret (results_ct rfl _ _ gb242 25 #[.string t244, .string t245] (0, 0) _ rfl (by (with_reducible repeat (first | refine blk_drewN ?_ _ | refine blk_drew ?_ | refine blk_alloc ?_ _)); refine blk_put (cs := #[.string t244, .string (⟨#[]⟩ : ByteArray)]) ?_ 1 _ rfl; (with_reducible repeat (first | refine blk_drewN ?_ _ | refine blk_drew ?_ | refine blk_alloc ?_ _)); refine blk_put (cs := #[.string (⟨#[]⟩ : ByteArray), .string (⟨#[]⟩ : ByteArray)]) ?_ 0 _ rfl; exact lb BK242.out) Tryz.underlying25 rfl (by kernel_rfl)) rfl ?_
     exact ⟨lx, by exact lB HB.out⟩
   replace c23 := Bool.eq_false_iff.mpr c23
   subst c23
   rw [if_neg (show ¬ (false = true) by decide)] at H
   replace H := Option.bind_eq_some_iff.mp H
   obtain ⟨t259, A320, H⟩ := H
   replace H : ((spec_l1Cur_pick.f l0 x244001_2 x244002_2 (t259.length : Int)).bind fun bt262 => (if 0 ≤ bt262.1 then (if bt262.1 < (t259.length : Int) then ((spec_l1Cur_pick.f l0 bt262.2.1 bt262.2.2 4).bind fun bt266 => (spec_DrawImageOfAddress.l0 kj2 (rdOf ByteArray.empty t259 bt262.1) bt266.1 l0 bt266.2.1 bt266.2.2 t244 t245)) else (none)) else (none))) = some (r1, r2, r3) := H
   have A32 := Aside0.mk A320
   clear A320
   replace H := Option.bind_eq_some_iff.mp H
   obtain ⟨⟨t262, t263, t264⟩, A330, H⟩ := H
   replace H : (if 0 ≤ t262 then (if t262 < (t259.length : Int) then ((spec_l1Cur_pick.f l0 t263 t264 4).bind fun bt266 => (spec_DrawImageOfAddress.l0 kj2 (rdOf ByteArray.empty t259 t262) bt266.1 l0 bt266.2.1 bt266.2.2 t244 t245)) else (none)) else (none)) = some (r1, r2, r3) := H
   have A33 := Aside0.mk A330
   clear A330
   by_cases c34 : 0 ≤ t262
   rotate_left
   · rw [if_neg c34] at H
     exact absurd H (by simp)

   rw [if_pos c34] at H
   have c34b0 : decide (0 ≤ t262) = true := decide_eq_true c34
   clear c34
   by_cases c35 : t262 < (t259.length : Int)
   rotate_left
   · rw [if_neg c35] at H
     exact absurd H (by simp)
   rw [if_pos c35] at H
   have c35b0 : decide (t262 < (t259.length : Int)) = true := decide_eq_true c35
   clear c35
   replace H := Option.bind_eq_some_iff.mp H
   obtain ⟨⟨t266, t267, t268⟩, A360, H⟩ := H
   replace H : (spec_DrawImageOfAddress.l0 kj2 (rdOf ByteArray.empty t259 t262) t266 l0 t267 t268 t244 t245) = some (r1, r2, r3) := H
   have A36 := Aside0.mk A360
   clear A360
   have H' := Aside0.mk H
   clear H
   have hnb37 := NB248_242.out
   have hnc37 := NB242_248.out
   have hnb38 := NB248_243.out
   have hnc38 := NB243_248.out
   have hcz39_0 : wc.cell? ⟨gb248, 0, none⟩ = some (.string t244) := (blk_cell BK248.out 0).trans rfl
   have hcz39_1 : wc.cell? ⟨gb248, 1, none⟩ = some (.string t245) := (blk_cell BK248.out 1).trans rfl
   have hfz39_0 := blk_frozen BK248.out 0
   have hfz39_1 := blk_frozen BK248.out 1
   go_wp2_with (first | ((with_reducible refine gate_callee (f := 38) rfl ?_); refine goesL_ (some 27) rfl rfl Tryz.func38 (by kernel_rfl) rfl #[.string t244, .string (⟨#[]⟩ : ByteArray)] rfl lm ?_; (with_reducible refine (spec_trAddresses.calls t244 (⟨#[]⟩ : ByteArray) t259 _ A32.out).mono ?_); rintro e w40 ⟨v260, rfl, ho0, hb⟩; refine ⟨_, rfl, ?_⟩; have n0_ := Aside0.mk (Kd.R_lower ho0 (below_size (lB HB.out))); have n1_ := Aside0.mk (blk_below (lb BK242.out) hb); have n2_ := Aside0.mk (blk_below (lb BK248.out) hb); have n3_ := Aside0.mk (IsS48.below (lI48 HI243.out) hb); have n4_ := Aside0.mk (below_step (lB HB.out) hb); clear BK242 BK248 HI243 HB; have HO261 := n0_; have BK242 := n1_; have BK248 := n2_; have HI243 := n3_; have HB := n4_; clear n0_ n1_ n2_ n3_ n4_; (try clear hb); (try clear hb2); (try clear hk); (try clear hi); (try clear ho0); obtain ⟨Ao41, co41, eo41⟩ := Kd.R_slice HO261.out; subst eo41) | ((with_reducible refine gate_callee (f := 39) rfl ?_); refine goesL_ (some 32) rfl rfl Tryz.func39 (by kernel_rfl) rfl #[.pointer (some ⟨gb243, 0, none⟩), .int .i64 (t259.length : Int)] rfl lm ?_; (with_reducible refine (spec_l1Cur_pick.calls gb243 l0 x244001_2 x244002_2 (t259.length : Int) t262 t263 t264 w _ ?side1 ?side2 A33.out).mono ?_); (case side1 => exact lI48 HI243.out); (case side2 => exact lB HB.out); rintro e w42 ⟨rfl, hi, hb, hk⟩; refine ⟨_, rfl, ?_⟩; have n0_ := Aside0.mk (KeepBut.blk hk (g' := gb242) (o := .cells #[.string (⟨#[]⟩ : ByteArray), .string (⟨#[]⟩ : ByteArray)] 25 (0, 0)) (lb BK242.out) NB242_243.out (by simp)); have n1_ := Aside0.mk (KeepBut.blk hk (g' := gb248) (o := .cells #[.string t244, .string t245] 25 (0, 0)) (lb BK248.out) NB248_243.out (by simp)); have n2_ := Aside0.mk (Kd.R_mono (Kd.R_keep (IsS48.apart (show IsS48 w _ gb243 l0 x244001_2 x244002_2 from by exact lI48 HI243.out) (by (with_reducible repeat (first | apply Kd.R_alloc | apply Kd.R_drewN | apply Kd.R_drew)); exact HO261.out) (by decide)) hk (fun _ h => h.2)) (fun _ h => h.1)); have n3_ := Aside0.mk (hb); have n4_ := Aside0.mk (hi); clear BK242 BK248 HO261 HB HI243; have BK242 := n0_; have BK248 := n1_; have HO261 := n2_; have HB := n3_; have HI243 := n4_; clear n0_ n1_ n2_ n3_ n4_; (try clear hb); (try clear hb2); (try clear hk); (try clear hi); have p265 : 0 ≤ (t262 : Int) := of_decide_eq_true (by first | (with_reducible assumption) | assumption); have q265 : t262 < (t259.length : Int) := of_decide_eq_true (by first | (with_reducible assumption) | assumption); obtain ⟨ad265, e265, hx265_0⟩ := Kd.at_string (Kd.R_reads' HO261.out).2.2 t262 p265 q265; cases e265; replace p265 := eq_true p265; replace q265 := eq_true q265) | ((with_reducible refine gate_callee (f := 39) rfl ?_); refine goesL_ (some 36) rfl rfl Tryz.func39 (by kernel_rfl) rfl #[.pointer (some ⟨gb243, 0, none⟩), .int .i64 4] rfl lm ?_; (with_reducible refine (spec_l1Cur_pick.calls gb243 l0 t263 t264 4 t266 t267 t268 w _ ?side1 ?side2 A36.out).mono ?_); (case side1 => exact lI48 HI243.out); (case side2 => exact lB HB.out); rintro e w43 ⟨rfl, hi, hb, hk⟩; refine ⟨_, rfl, ?_⟩; have n0_ := Aside0.mk (KeepBut.blk hk (g' := gb242) (o := .cells #[.string (⟨#[]⟩ : ByteArray), .string (⟨#[]⟩ : ByteArray)] 25 (0, 0)) (lb BK242.out) NB242_243.out (by simp)); have n1_ := Aside0.mk (KeepBut.blk hk (g' := gb248) (o := .cells #[.string t244, .string t245] 25 (0, 0)) (lb BK248.out) NB248_243.out (by simp)); have n2_ := Aside0.mk (Kd.R_mono (Kd.R_keep (IsS48.apart (show IsS48 w _ gb243 l0 t263 t264 from by exact lI48 HI243.out) (by (with_reducible repeat (first | apply Kd.R_alloc | apply Kd.R_drewN | apply Kd.R_drew)); exact HO261.out) (by decide)) hk (fun _ h => h.2)) (fun _ h => h.1)); have n3_ := Aside0.mk (hb); have n4_ := Aside0.mk (hi); clear BK242 BK248 HO261 HB HI243; have BK242 := n0_; have BK248 := n1_; have HO261 := n2_; have HB := n3_; have HI243 := n4_; clear n0_ n1_ n2_ n3_ n4_; (try clear hb); (try clear hb2); (try clear hk); (try clear hi)))
   go_loopg [7, 8] kj2 (fun kq v7 v8 w' => ∃ (x7_2 : ByteArray) (x8_2 : Int) (x244001_2 : Int) (x244002_2 : Int), v7 = .string x7_2 ∧ v8 = .int .i64 x8_2 ∧ Aside0 (spec_DrawImageOfAddress.l0 kq x7_2 x8_2 l0 x244001_2 x244002_2 t244 t245 = some (r1, r2, r3)) ∧ Aside0 (kq ≤ kj2) ∧ Aside0 (w'.heap[gb242]? = some (.cells #[.string (⟨#[]⟩ : ByteArray), .string (⟨#[]⟩ : ByteArray)] 25 (0, 0))) ∧ Aside0 (w'.heap[gb248]? = some (.cells #[.string t244, .string t245] 25 (0, 0))) ∧ Aside0 (IsS48 w w' gb243 l0 x244001_2 x244002_2) ∧ Aside0 (Below w.heap.size w w'))
   case atStart => exact ⟨(rdOf ByteArray.empty t259 t262), (t266), (t267), (t268), (by first | rfl | (simp; done) | (simp [*]; done)), (by first | rfl | (simp; done) | (simp [*]; done)), H', ⟨Nat.le_refl _⟩, ⟨lb BK242.out⟩, ⟨lb BK248.out⟩, ⟨by exact lI48 HI243.out⟩, ⟨by exact lB HB.out⟩⟩
   case round =>
    clear H'
    (try clear c23)
    (try clear c34)
    (try clear c34b0)
    (try clear c35)
    (try clear c35b0)
    (try clear hcz39_0)
    (try clear hcz39_1)
    (try clear hfz39_0)
    (try clear hfz39_1)
    (try clear hx265_0)
    (try clear p265)
    (try clear q265)
    obtain ⟨x7_2, x8_2, x244001_2, x244002_2, rfl, rfl, HA, HK2, BK242, BK248, HI243, HB⟩ := hrel
    cases gk with
    | zero => exact absurd HA.out (by simp [spec_DrawImageOfAddress.l0])
    | succ k2 =>
      have H := HA.out
      clear HA
      simp only [spec_DrawImageOfAddress.l0] at H
      by_cases c44 : x8_2 > 0
      · rw [if_pos c44] at H
        have c44b0 : decide (0 < x8_2) = true := decide_eq_true c44
        clear c44
        obtain ⟨y269, hy269⟩ : ∃ y_ : List ByteArray, y_ = (([(⟨#[48]⟩ : ByteArray), (⟨#[49]⟩ : ByteArray)] : List ByteArray)) := ⟨_, rfl⟩
        replace H : ((spec_l1Cur_of.f l0 x244001_2 x244002_2 y269).bind fun bt272 => (if x7_2.size + bt272.1.size ≤ 9223372036854775807 then (spec_DrawImageOfAddress.l0 k2 (x7_2 ++ bt272.1) (wrap64 (x8_2 - 1)) l0 bt272.2.1 bt272.2.2 t244 t245) else (none))) = some (r1, r2, r3) := by first | (rw [hy269]; with_reducible exact H) | (have H2_ := (Option.bind_some _ _).symm.trans H; rw [hy269]; with_reducible exact H2_) | (have H2_ := (Option.bind_some _ _).symm.trans H; with_reducible exact H2_) | with_reducible exact H | (rw [hy269]; exact H) | exact H
        have Ny269 := Aside0.mk hy269
        clear hy269
        replace H := Option.bind_eq_some_iff.mp H
        obtain ⟨⟨t272, t273, t274⟩, A450, H⟩ := H
        replace H : (if x7_2.size + t272.size ≤ 9223372036854775807 then (spec_DrawImageOfAddress.l0 k2 (x7_2 ++ t272) (wrap64 (x8_2 - 1)) l0 t273 t274 t244 t245) else (none)) = some (r1, r2, r3) := H
        have A45 := Aside0.mk A450
        clear A450
        by_cases c46 : x7_2.size + t272.size ≤ 9223372036854775807
        · rw [if_pos c46] at H
          have c46b0 := eq_true c46
          have c46b1 : decide (x7_2.size + t272.size ≤ 9223372036854775807) = true := decide_eq_true c46
          try have c46b2 : (9223372036854775807 < x7_2.size + t272.size) = False := eq_false (Nat.not_lt.2 c46)
          have H' := Aside0.mk H
          clear H
          go_wp2_with (first | ((with_reducible refine gate_dst (N := 43) rfl ?_); refine Kd.R_lit Kd.string _ 9 ?hg (N := 43) ?hd (xs := ([(⟨#[48]⟩ : ByteArray), (⟨#[49]⟩ : ByteArray)] : List ByteArray)) (inner := [.string (⟨#[48]⟩ : ByteArray), .string (⟨#[49]⟩ : ByteArray)]) (ok := fun _ => True) (okp := fun _ => True) ?hr ?hp (fun _ hk => hk) trivial (Below.refl _ _) (Nat.le_refl _) (by simp) ?_; (case hd => rfl); (case hg => rfl); (case hr => exact lr); (case hp => exact (Reps.one (show Kd.M Kd.string _ _ _ (⟨#[48]⟩ : ByteArray) [.string (⟨#[48]⟩ : ByteArray)] from rfl) (Reps.one (show Kd.M Kd.string _ _ _ (⟨#[49]⟩ : ByteArray) [.string (⟨#[49]⟩ : ByteArray)] from rfl) (Reps.none _ _)))); intro v270 w47 ho48 hb hg_ hnew_; clear hg_ hnew_; (first | rw [← Ny269.out] at ho48 | (simp only [Int.reduceToNat] at ho48; rw [← Ny269.out] at ho48)); have n0_ := Aside0.mk (Kd.R_lower ho48 (below_size (lB HB.out))); have n1_ := Aside0.mk (blk_below (lb BK242.out) hb); have n2_ := Aside0.mk (blk_below (lb BK248.out) hb); have n3_ := Aside0.mk (IsS48.below (lI48 HI243.out) hb); have n4_ := Aside0.mk (below_step (lB HB.out) hb); clear BK242 BK248 HI243 HB; have HO271 := n0_; have BK242 := n1_; have BK248 := n2_; have HI243 := n3_; have HB := n4_; clear n0_ n1_ n2_ n3_ n4_; clear hb ho48; obtain ⟨Ao49, co49, eo49⟩ := Kd.R_slice HO271.out; subst eo49) | ((with_reducible refine gate_callee (f := 37) rfl ?_); refine goesL_ (some 44) rfl rfl Tryz.func37 (by kernel_rfl) rfl #[.pointer (some ⟨gb243, 0, none⟩), .slice Ao49 y269.length co49] rfl lm ?_; (with_reducible refine (spec_l1Cur_of.calls gb243 l0 x244001_2 x244002_2 _ _ y269 t272 t273 t274 w _ ?side1 ?side2 ?side3 ?side4 ?side5 A45.out).mono ?_); (case side1 => exact lI48 HI243.out); (case side2 => exact lB HB.out); (case side3 => repeat (first | exact (Kd.R_reads' HO271.out).2.2 | (with_reducible refine Kd.C_alloc ?_ _) | (with_reducible refine Kd.C_drewN ?_ _) | (with_reducible refine Kd.C_drew ?_))); (case side4 => exact (Kd.R_reads' HO271.out).2.1); (case side5 => exact far_slice (IsS48.own_ne HI243.out HO271.out (by decide))); rintro e w50 ⟨rfl, hi, hb, hk⟩; refine ⟨_, rfl, ?_⟩; have n0_ := Aside0.mk (KeepBut.blk hk (g' := gb242) (o := .cells #[.string (⟨#[]⟩ : ByteArray), .string (⟨#[]⟩ : ByteArray)] 25 (0, 0)) (lb BK242.out) NB242_243.out (by simp)); have n1_ := Aside0.mk (KeepBut.blk hk (g' := gb248) (o := .cells #[.string t244, .string t245] 25 (0, 0)) (lb BK248.out) NB248_243.out (by simp)); have n2_ := Aside0.mk (Kd.R_mono (Kd.R_keep (IsS48.apart (show IsS48 w _ gb243 l0 x244001_2 x244002_2 from by exact lI48 HI243.out) (by (with_reducible repeat (first | apply Kd.R_alloc | apply Kd.R_drewN | apply Kd.R_drew)); exact HO271.out) (by decide)) hk (fun _ h => h.2)) (fun _ h => h.1)); have n3_ := Aside0.mk (hb); have n4_ := Aside0.mk (hi); clear BK242 BK248 HO271 HB HI243; have BK242 := n0_; have BK248 := n1_; have HO271 := n2_; have HB := n3_; have HI243 := n4_; clear n0_ n1_ n2_ n3_ n4_; (try clear hb); (try clear hb2); (try clear hk); (try clear hi)))
          go_roundg k2
          case measure => have := HJ2.out; have := HK2.out; omega
          case rel => exact ⟨(x7_2 ++ t272), (wrap64 (x8_2 - 1)), (t273), (t274), (by first | rfl | (simp; done) | (simp [*]; done)), (by first | rfl | (simp; done) | (simp [*]; done)), H', ⟨by have := HJ2.out; have := HK2.out; omega⟩, ⟨lb BK242.out⟩, ⟨lb BK248.out⟩, ⟨by exact lI48 HI243.out⟩, ⟨by exact lB HB.out⟩⟩
        · rw [if_neg c46] at H
          exact absurd H (by simp)
      · rw [if_neg c44] at H
        have c44b0 : decide (0 < x8_2) = false := decide_eq_false c44
        clear c44
        simp only [Option.some.injEq, Prod.mk.injEq] at H
        obtain ⟨rfl, rfl, rfl⟩ := H
        have hnb51 := NB248_242.out
        have hnc51 := NB242_248.out
        have hnb52 := NB248_243.out
        have hnc52 := NB243_248.out
        have hcz53_0 : wr.cell? ⟨gb248, 0, none⟩ = some (.string t244) := (blk_cell BK248.out 0).trans rfl
        have hcz53_1 : wr.cell? ⟨gb248, 1, none⟩ = some (.string t245) := (blk_cell BK248.out 1).trans rfl
        have hfz53_0 := blk_frozen BK248.out 0
        have hfz53_1 := blk_frozen BK248.out 1
        have hnb54 := NB242_243.out
        have hnc54 := NB243_242.out
        have hcz55_0 : wr.cell? ⟨gb242, 0, none⟩ = some (.string (⟨#[]⟩ : ByteArray)) := (blk_cell BK242.out 0).trans rfl
        have hcz55_1 : wr.cell? ⟨gb242, 1, none⟩ = some (.string (⟨#[]⟩ : ByteArray)) := (blk_cell BK242.out 1).trans rfl
        have hfz55_0 := blk_frozen BK242.out 0
        have hfz55_1 := blk_frozen BK242.out 1
        go_wp2
        refine bodyPost_ret (results_ct rfl _ _ gb242 25 #[.string t244, .string t245] (0, 0) _ rfl (by (with_reducible repeat (first | refine blk_drewN ?_ _ | refine blk_drew ?_ | refine blk_alloc ?_ _)); refine blk_put (cs := #[.string t244, .string (⟨#[]⟩ : ByteArray)]) ?_ 1 _ rfl; (with_reducible repeat (first | refine blk_drewN ?_ _ | refine blk_drew ?_ | refine blk_alloc ?_ _)); refine blk_put (cs := #[.string (⟨#[]⟩ : ByteArray), .string (⟨#[]⟩ : ByteArray)]) ?_ 0 _ rfl; exact lb BK242.out) Tryz.underlying25 rfl (by kernel_rfl)) rfl ?_
        exact ⟨lx, by exact lB HB.out⟩
end Go.Proofs.YtgnepbogadfinaaGreatDoor.PA
