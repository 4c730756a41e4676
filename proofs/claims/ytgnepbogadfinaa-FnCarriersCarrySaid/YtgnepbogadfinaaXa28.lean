import Derived.Test.YtgnepbogadfinaaXa14
import Derived.Test.YtgnepbogadfinaaXa22
import Derived.Test.YtgnepbogadfinaaXa23
import Derived.Test.YtgnepbogadfinaaXa27
/- A part of the proof: lemmas that later parts use. -/
set_option linter.unusedVariables false
set_option linter.unusedSimpArgs false
namespace Go.Proofs.Ytgnepbogadfinaa.PA
open Go.RowKit Go.Proofs.YtgnepbogadfinaaW.PrintWords
def spec_prReduce.f (a0_0 : ByteArray) (a0_1 : ByteArray) (l1 : List Int) : Option (ByteArray × ByteArray) := (N.parseT a0_0).bind fun A => (N.parseT a0_1).bind fun B => if A.carets < 1000 ∧ B.carets < 1000 ∧ l1.length = 0 then some (N.tx (N.red (A, B)).1, N.tx (N.red (A, B)).2) else none
theorem spec_prReduce.calls (a0_0 : ByteArray) (a0_1 : ByteArray) (A1 : Option Addr) (c1 : Nat) (l1 : List Int) (r1 : ByteArray) (r2 : ByteArray) (w : World) (hr1 : Kd.C (Kd.int .i64) w A1 l1.length l1) (hc1 : l1.length ≤ c1) (h : spec_prReduce.f a0_0 a0_1 l1 = some (r1, r2)) :
    Calls Try.prog 33 #[.agg #[.string a0_0, .string a0_1], .slice A1 l1.length c1] w fun e w' => e = .returned (.agg #[.string r1, .string r2]) ∧ Below w.heap.size w w' := by
  unfold spec_prReduce.f at h
  cases e1 : N.parseT a0_0 with
  | none => rw [e1] at h; cases h
  | some A =>
    cases e2 : N.parseT a0_1 with
    | none => rw [e1, e2] at h; cases h
    | some B =>
      rw [e1, e2, Option.bind_some, Option.bind_some] at h
      split at h
      · rename_i hg
        have h := Option.some.inj h
        simp only [Prod.mk.injEq] at h
        obtain ⟨rfl, rfl⟩ := h
        rw [N.parseT_some e1, N.parseT_some e2, hg.2.2]
        exact N.prReduce_any A B hg.1 hg.2.1 w
      · cases h
def spec_prIf.f (a0_0 : ByteArray) (a0_1 : ByteArray) : Option (ByteArray × ByteArray × Bool) := (N.parseT a0_0).bind fun A => (N.parseT a0_1).bind fun B => if A.carets = B.carets then some (N.ifF (A, B)) else none
theorem spec_prIf.calls (a0_0 : ByteArray) (a0_1 : ByteArray) (r1 : ByteArray) (r2 : ByteArray) (r3 : Bool) (w : World) (h : spec_prIf.f a0_0 a0_1 = some (r1, r2, r3)) :
    Calls Try.prog 32 #[.agg #[.string a0_0, .string a0_1]] w fun e w' => e = .returned (.tuple #[.agg #[.string r1, .string r2], .bool r3]) ∧ Below w.heap.size w w' := by
  unfold spec_prIf.f at h
  cases e1 : N.parseT a0_0 with
  | none => rw [e1] at h; cases h
  | some A =>
    cases e2 : N.parseT a0_1 with
    | none => rw [e1, e2] at h; cases h
    | some B =>
      rw [e1, e2, Option.bind_some, Option.bind_some] at h
      split at h
      · rename_i hg
        have h := Option.some.inj h
        have := N.prIf_calls A B hg w
        rw [N.ifP_vP, h] at this
        rw [N.parseT_some e1, N.parseT_some e2]
        exact this
      · cases h
def spec_trRight.f (a0 : Int) : Option (ByteArray) := if 0 ≤ a0 ∧ a0 < 100000 then some (N.tx (N.comb a0.toNat)) else none
theorem spec_trRight.calls (a0 : Int) (r : ByteArray) (w : World) (h : spec_trRight.f a0 = some r) :
    Calls Try.prog 30 #[.int .i64 a0] w fun e w' => e = .returned (.string r) ∧ Below w.heap.size w w' := by
  unfold spec_trRight.f at h
  split at h
  · rename_i hg
    obtain rfl := Option.some.inj h
    obtain ⟨n, rfl⟩ : ∃ n : Nat, a0 = n := ⟨a0.toNat, by omega⟩
    refine (N.trRight_calls n (by omega) w).mono ?_
    rintro e w' ⟨rfl, rfl⟩
    exact ⟨rfl, Below.refl _ _⟩
  · cases h
def impl_CarrierOf.f (a0_0 : Int) (a0_1 : Int) (a1_0 : Int) (a1_1 : Int) : Option (ByteArray × ByteArray × Bool) := some (if (N.goodB a0_0 a0_1 && decide (1 < a0_1)) = true ∧ (N.goodB a1_0 a1_1 && decide (1 < a1_1)) = true then N.ifF (N.red (N.carP (plN a0_0 a0_1) (plN a1_0 a1_1))) else N.noP)
theorem impl_CarrierOf.calls (a0_0 : Int) (a0_1 : Int) (a1_0 : Int) (a1_1 : Int) (r1 : ByteArray) (r2 : ByteArray) (r3 : Bool) (w : World) (h : impl_CarrierOf.f a0_0 a0_1 a1_0 a1_1 = some (r1, r2, r3)) :
    Calls Try.prog 7 #[.agg #[.int .i64 a0_0, .int .i64 a0_1], .agg #[.int .i64 a1_0, .int .i64 a1_1]] w fun e w' => e = .returned (.tuple #[.agg #[.string r1, .string r2], .bool r3]) ∧ Below w.heap.size w w' := by
  unfold impl_CarrierOf.f at h
  have h := Option.some.inj h
  split at h
  · rename_i hg
    obtain ⟨g1, g2⟩ := hg
    rw [Bool.and_eq_true] at g1 g2
    obtain ⟨m, k, rfl, rfl, hk, hm, ho⟩ := N.goodB_true g1.1
    obtain ⟨m', k', rfl, rfl, hk', hm', ho'⟩ := N.goodB_true g2.1
    rw [plN_eq m k (by omega), plN_eq m' k' (by omega)] at h
    have := N.CarrierOf_yes m k m' k' hk hm hk' hm' (by rw [Bool.and_eq_true]; exact g1) (by rw [Bool.and_eq_true]; exact g2) w
    rw [N.ifP_vP, h] at this
    exact this
  · rename_i hg
    simp only [N.noP, Prod.mk.injEq] at h
    obtain ⟨rfl, rfl, rfl⟩ := h
    exact N.CarrierOf_no _ _ _ _ hg w
end Go.Proofs.Ytgnepbogadfinaa.PA
namespace Go.Proofs.Ytgnepbogadfinaa.PA
open Go.RowKit Go.Proofs.YtgnepbogadfinaaW.PrintWords Go.Proofs.YtgnepbogadfinaaW.PrintLast Go.Proofs.YtgnepbogadfinaaW.PrintMore
attribute [local go_sem] max2_int min2_int max_two min_two max_three min_three max_four min_four
attribute [local go_sem high] eqA25
def spec_obStart.l0 : Nat → ByteArray → Int → Int → Option (ByteArray × Int)
  | 0, _, _, _ => none
  | k + 1, x4, x151000, x151001 => (spec_mpStarts.f x4).bind fun t151 => ((spec_mpLeaf.f x4 x151000 x151001).bind fun t154 => (if 0 ≤ t154 then (if t154 < (t151.length : Int) then (if (((rd_T25 t151 t154).f0) == x151000 && (((rd_T25 t151 t154).f1) == x151001)) = true then (some (x4, t154)) else ((spec_trGraft.f x4 t154 (⟨#[40, 46, 46, 41]⟩ : ByteArray)).bind fun t156 => (spec_obStart.l0 k t156 x151000 x151001))) else (none)) else (none)))
def spec_obStart.f (k : Nat) (a0_0 : Int) (a0_1 : Int) : Option (ByteArray × Int) := spec_obStart.l0 k (⟨#[46]⟩ : ByteArray) a0_0 a0_1
set_option maxHeartbeats 8000000 in
set_option maxRecDepth 100000 in
theorem spec_obStart.calls (k : Nat) (a0_0 : Int) (a0_1 : Int) (r1 : ByteArray) (r2 : Int) (w : World) (h : spec_obStart.f k a0_0 a0_1 = some (r1, r2)) :
    Calls Try.prog 27 #[.agg #[.int .i64 a0_0, .int .i64 a0_1]] w fun e w' => e = .returned (.tuple #[.string r1, .int .i64 r2]) ∧ Below w.heap.size w w' := by
  have hu25 := Try.underlying25
  have HB := Aside0.mk (Below.refl w.heap.size w)
  have H : (spec_obStart.l0 k (⟨#[46]⟩ : ByteArray) a0_0 a0_1) = some (r1, r2) := h
  clear h
  have H' := Aside0.mk H
  clear H
  go_enter Try.func27, Try.ntmps27
  go_wp2_with (first | ((with_reducible refine gate_dst (N := 1) rfl ?_); refine box_event ?hg (N := 1) ?hd (cs := #[.int .i64 a0_0, .int .i64 a0_1]) (t := 25) ?hr ?_; (case hd => rfl); (case hg => rfl); (case hr => exact lr); intro gb150 hg w2 hbox hb; have n0_ := Aside0.mk (below_step (lB HB.out) hb); have n1_ := Aside0.mk (hbox); have n2_ := gw hg (lB HB.out); have n3_ := gw hg (lB HB.out); clear HB; have HB := n0_; have BK150 := n1_; have GW150 := n2_; have GE150 := n3_; clear n0_ n1_ n2_ n3_; clear hb hbox hg))
  repeat (go_quiet (first | ((with_reducible refine gate_dst (N := 1) rfl ?_); refine box_event ?hg (N := 1) ?hd (cs := #[.int .i64 a0_0, .int .i64 a0_1]) (t := 25) ?hr ?_; (case hd => rfl); (case hg => rfl); (case hr => exact lr); intro gb150 hg w2 hbox hb; have n0_ := Aside0.mk (below_step (lB HB.out) hb); have n1_ := Aside0.mk (hbox); have n2_ := gw hg (lB HB.out); have n3_ := gw hg (lB HB.out); clear HB; have HB := n0_; have BK150 := n1_; have GW150 := n2_; have GE150 := n3_; clear n0_ n1_ n2_ n3_; clear hb hbox hg)); try go_wp2_with (first | ((with_reducible refine gate_dst (N := 1) rfl ?_); refine box_event ?hg (N := 1) ?hd (cs := #[.int .i64 a0_0, .int .i64 a0_1]) (t := 25) ?hr ?_; (case hd => rfl); (case hg => rfl); (case hr => exact lr); intro gb150 hg w2 hbox hb; have n0_ := Aside0.mk (below_step (lB HB.out) hb); have n1_ := Aside0.mk (hbox); have n2_ := gw hg (lB HB.out); have n3_ := gw hg (lB HB.out); clear HB; have HB := n0_; have BK150 := n1_; have GW150 := n2_; have GE150 := n3_; clear n0_ n1_ n2_ n3_; clear hb hbox hg)))
  go_loopg [4] k (fun kq v4 w' => ∃ (x4_1 : ByteArray), v4 = .string x4_1 ∧ Aside0 (spec_obStart.l0 kq x4_1 a0_0 a0_1 = some (r1, r2)) ∧ Aside0 (kq ≤ k) ∧ Aside0 (w'.heap[gb150]? = some (.cells #[.int .i64 a0_0, .int .i64 a0_1] 25 (0, 0))) ∧ Aside0 (Below w.heap.size w w'))
  case atStart => exact ⟨((⟨#[46]⟩ : ByteArray)), (by first | rfl | (simp; done) | (simp [*]; done)), H', ⟨Nat.le_refl _⟩, ⟨lb BK150.out⟩, ⟨by exact lB HB.out⟩⟩
  case round =>
   clear H'
   obtain ⟨x4_1, rfl, HA, HK1, BK150, HB⟩ := hrel
   cases gk with
   | zero => exact absurd HA.out (by simp [spec_obStart.l0])
   | succ k1 =>
     have H := HA.out
     clear HA
     simp only [spec_obStart.l0] at H
     replace H := Option.bind_eq_some_iff.mp H
     obtain ⟨t151, A30, H⟩ := H
     replace H : ((spec_mpLeaf.f x4_1 a0_0 a0_1).bind fun t154 => (if 0 ≤ t154 then (if t154 < (t151.length : Int) then (if (((rd_T25 t151 t154).f0) == a0_0 && (((rd_T25 t151 t154).f1) == a0_1)) = true then (some (x4_1, t154)) else ((spec_trGraft.f x4_1 t154 (⟨#[40, 46, 46, 41]⟩ : ByteArray)).bind fun t156 => (spec_obStart.l0 k1 t156 a0_0 a0_1))) else (none)) else (none))) = some (r1, r2) := H
     have A3 := Aside0.mk A30
     clear A30
     replace H := Option.bind_eq_some_iff.mp H
     obtain ⟨t154, A40, H⟩ := H
     replace H : (if 0 ≤ t154 then (if t154 < (t151.length : Int) then (if (((rd_T25 t151 t154).f0) == a0_0 && (((rd_T25 t151 t154).f1) == a0_1)) = true then (some (x4_1, t154)) else ((spec_trGraft.f x4_1 t154 (⟨#[40, 46, 46, 41]⟩ : ByteArray)).bind fun t156 => (spec_obStart.l0 k1 t156 a0_0 a0_1))) else (none)) else (none)) = some (r1, r2) := H
     have A4 := Aside0.mk A40
     clear A40
     by_cases c5 : 0 ≤ t154
     · rw [if_pos c5] at H
       have c5b0 : decide (0 ≤ t154) = true := decide_eq_true c5
       clear c5
       by_cases c6 : t154 < (t151.length : Int)
       · rw [if_pos c6] at H
         have c6b0 : decide (t154 < (t151.length : Int)) = true := decide_eq_true c6
         clear c6
         by_cases c7 : (((rd_T25 t151 t154).f0) == a0_0 && (((rd_T25 t151 t154).f1) == a0_1)) = true
         · rw [if_pos c7] at H
           have c7b0 : (((rd_T25 t151 t154).f0) == a0_0 && (((rd_T25 t151 t154).f1) == a0_1)) = true := c7
           (try (have c7b1 : decide (((rd_T25 t151 t154).f0) = a0_0 && (((rd_T25 t151 t154).f1) == a0_1)) = true := by simpa using c7))
           (try (have c7b2 : (((rd_T25 t151 t154).f0) == a0_0 && (((rd_T25 t151 t154).f1) == a0_1)) = true := by simpa using c7))
           clear c7
           simp only [Option.some.injEq, Prod.mk.injEq] at H
           obtain ⟨rfl, rfl⟩ := H
           go_wp2_with (first | (go_at_call 61; (with_reducible refine (spec_mpStarts.calls x4_1 t151 _ A3.out).mono ?_); rintro e w8 ⟨v152, rfl, ho0, hb⟩; have n0_ := Aside0.mk (Kd.R_lower (Kd.R_newB ho0 (g := gb150) (o := .cells #[.int .i64 a0_0, .int .i64 a0_1] 25 (0, 0)) (lb BK150.out)) (below_size (lB HB.out))); have n1_ := Aside0.mk (blk_below (lb BK150.out) hb); have n2_ := Aside0.mk (below_step (lB HB.out) hb); clear BK150 HB; have HO153 := n0_; have BK150 := n1_; have HB := n2_; clear n0_ n1_ n2_; (try clear hb); (try clear hb2); (try clear hk); (try clear hi); (try clear ho0); have hcz9_0 : w8.cell? ⟨gb150, 0, none⟩ = some (.int .i64 a0_0) := (blk_cell BK150.out 0).trans rfl; have hcz9_1 : w8.cell? ⟨gb150, 1, none⟩ = some (.int .i64 a0_1) := (blk_cell BK150.out 1).trans rfl; have hfz9_0 := blk_frozen BK150.out 0; have hfz9_1 := blk_frozen BK150.out 1) | (go_at_call 62; (with_reducible refine (spec_mpLeaf.calls x4_1 a0_0 a0_1 t154 _ A4.out).mono ?_); rintro e w10 ⟨rfl, hb⟩; have n0_ := Aside0.mk (Kd.R_below (by (with_reducible repeat (first | apply Kd.R_alloc | apply Kd.R_drewN | apply Kd.R_drew)); exact HO153.out) hb); have n1_ := Aside0.mk (blk_below (lb BK150.out) hb); have n2_ := Aside0.mk (below_step (lB HB.out) hb); clear HO153 BK150 HB; have HO153 := n0_; have BK150 := n1_; have HB := n2_; clear n0_ n1_ n2_; (try clear hb); (try clear hb2); (try clear hk); (try clear hi); obtain ⟨Ao11, co11, eo11⟩ := Kd.R_slice HO153.out; subst eo11; have p155 : 0 ≤ (t154 : Int) := of_decide_eq_true (by first | (with_reducible assumption) | assumption); have q155 : t154 < (t151.length : Int) := of_decide_eq_true (by first | (with_reducible assumption) | assumption); obtain ⟨ad155, e155, hx155_0, hx155_1⟩ := at_T25 (Kd.R_reads' HO153.out).2.2 t154 p155 q155; cases e155; replace p155 := eq_true p155; replace q155 := eq_true q155; have hcz12_0 : w10.cell? ⟨gb150, 0, none⟩ = some (.int .i64 a0_0) := (blk_cell BK150.out 0).trans rfl; have hcz12_1 : w10.cell? ⟨gb150, 1, none⟩ = some (.int .i64 a0_1) := (blk_cell BK150.out 1).trans rfl; have hfz12_0 := blk_frozen BK150.out 0; have hfz12_1 := blk_frozen BK150.out 1))
           repeat (go_quiet (first | (go_at_call 61; (with_reducible refine (spec_mpStarts.calls x4_1 t151 _ A3.out).mono ?_); rintro e w8 ⟨v152, rfl, ho0, hb⟩; have n0_ := Aside0.mk (Kd.R_lower (Kd.R_newB ho0 (g := gb150) (o := .cells #[.int .i64 a0_0, .int .i64 a0_1] 25 (0, 0)) (lb BK150.out)) (below_size (lB HB.out))); have n1_ := Aside0.mk (blk_below (lb BK150.out) hb); have n2_ := Aside0.mk (below_step (lB HB.out) hb); clear BK150 HB; have HO153 := n0_; have BK150 := n1_; have HB := n2_; clear n0_ n1_ n2_; (try clear hb); (try clear hb2); (try clear hk); (try clear hi); (try clear ho0); have hcz9_0 : w8.cell? ⟨gb150, 0, none⟩ = some (.int .i64 a0_0) := (blk_cell BK150.out 0).trans rfl; have hcz9_1 : w8.cell? ⟨gb150, 1, none⟩ = some (.int .i64 a0_1) := (blk_cell BK150.out 1).trans rfl; have hfz9_0 := blk_frozen BK150.out 0; have hfz9_1 := blk_frozen BK150.out 1) | (go_at_call 62; (with_reducible refine (spec_mpLeaf.calls x4_1 a0_0 a0_1 t154 _ A4.out).mono ?_); rintro e w10 ⟨rfl, hb⟩; have n0_ := Aside0.mk (Kd.R_below (by (with_reducible repeat (first | apply Kd.R_alloc | apply Kd.R_drewN | apply Kd.R_drew)); exact HO153.out) hb); have n1_ := Aside0.mk (blk_below (lb BK150.out) hb); have n2_ := Aside0.mk (below_step (lB HB.out) hb); clear HO153 BK150 HB; have HO153 := n0_; have BK150 := n1_; have HB := n2_; clear n0_ n1_ n2_; (try clear hb); (try clear hb2); (try clear hk); (try clear hi); obtain ⟨Ao11, co11, eo11⟩ := Kd.R_slice HO153.out; subst eo11; have p155 : 0 ≤ (t154 : Int) := of_decide_eq_true (by first | (with_reducible assumption) | assumption); have q155 : t154 < (t151.length : Int) := of_decide_eq_true (by first | (with_reducible assumption) | assumption); obtain ⟨ad155, e155, hx155_0, hx155_1⟩ := at_T25 (Kd.R_reads' HO153.out).2.2 t154 p155 q155; cases e155; replace p155 := eq_true p155; replace q155 := eq_true q155; have hcz12_0 : w10.cell? ⟨gb150, 0, none⟩ = some (.int .i64 a0_0) := (blk_cell BK150.out 0).trans rfl; have hcz12_1 : w10.cell? ⟨gb150, 1, none⟩ = some (.int .i64 a0_1) := (blk_cell BK150.out 1).trans rfl; have hfz12_0 := blk_frozen BK150.out 0; have hfz12_1 := blk_frozen BK150.out 1)); try go_wp2_with (first | (go_at_call 61; (with_reducible refine (spec_mpStarts.calls x4_1 t151 _ A3.out).mono ?_); rintro e w8 ⟨v152, rfl, ho0, hb⟩; have n0_ := Aside0.mk (Kd.R_lower (Kd.R_newB ho0 (g := gb150) (o := .cells #[.int .i64 a0_0, .int .i64 a0_1] 25 (0, 0)) (lb BK150.out)) (below_size (lB HB.out))); have n1_ := Aside0.mk (blk_below (lb BK150.out) hb); have n2_ := Aside0.mk (below_step (lB HB.out) hb); clear BK150 HB; have HO153 := n0_; have BK150 := n1_; have HB := n2_; clear n0_ n1_ n2_; (try clear hb); (try clear hb2); (try clear hk); (try clear hi); (try clear ho0); have hcz9_0 : w8.cell? ⟨gb150, 0, none⟩ = some (.int .i64 a0_0) := (blk_cell BK150.out 0).trans rfl; have hcz9_1 : w8.cell? ⟨gb150, 1, none⟩ = some (.int .i64 a0_1) := (blk_cell BK150.out 1).trans rfl; have hfz9_0 := blk_frozen BK150.out 0; have hfz9_1 := blk_frozen BK150.out 1) | (go_at_call 62; (with_reducible refine (spec_mpLeaf.calls x4_1 a0_0 a0_1 t154 _ A4.out).mono ?_); rintro e w10 ⟨rfl, hb⟩; have n0_ := Aside0.mk (Kd.R_below (by (with_reducible repeat (first | apply Kd.R_alloc | apply Kd.R_drewN | apply Kd.R_drew)); exact HO153.out) hb); have n1_ := Aside0.mk (blk_below (lb BK150.out) hb); have n2_ := Aside0.mk (below_step (lB HB.out) hb); clear HO153 BK150 HB; have HO153 := n0_; have BK150 := n1_; have HB := n2_; clear n0_ n1_ n2_; (try clear hb); (try clear hb2); (try clear hk); (try clear hi); obtain ⟨Ao11, co11, eo11⟩ := Kd.R_slice HO153.out; subst eo11; have p155 : 0 ≤ (t154 : Int) := of_decide_eq_true (by first | (with_reducible assumption) | assumption); have q155 : t154 < (t151.length : Int) := of_decide_eq_true (by first | (with_reducible assumption) | assumption); obtain ⟨ad155, e155, hx155_0, hx155_1⟩ := at_T25 (Kd.R_reads' HO153.out).2.2 t154 p155 q155; cases e155; replace p155 := eq_true p155; replace q155 := eq_true q155; have hcz12_0 : w10.cell? ⟨gb150, 0, none⟩ = some (.int .i64 a0_0) := (blk_cell BK150.out 0).trans rfl; have hcz12_1 : w10.cell? ⟨gb150, 1, none⟩ = some (.int .i64 a0_1) := (blk_cell BK150.out 1).trans rfl; have hfz12_0 := blk_frozen BK150.out 0; have hfz12_1 := blk_frozen BK150.out 1)))
           go_ret2
           exact ⟨lx, by exact lB HB.out⟩
         · rw [if_neg c7] at H
           have c7b0 : (((rd_T25 t151 t154).f0) == a0_0 && (((rd_T25 t151 t154).f1) == a0_1)) = false := by simpa using c7
           (try (have c7b1 : decide (((rd_T25 t151 t154).f0) = a0_0 && (((rd_T25 t151 t154).f1) == a0_1)) = false := by simpa using c7))
           (try (have c7b2 : (((rd_T25 t151 t154).f0) == a0_0 && (((rd_T25 t151 t154).f1) == a0_1)) = false := by simpa using c7))
           (try (have c7b3 : ¬ (((rd_T25 t151 t154).f0) = a0_0 && (((rd_T25 t151 t154).f1) == a0_1)) := by simpa using c7))
           clear c7
           replace H := Option.bind_eq_some_iff.mp H
           obtain ⟨t156, A130, H⟩ := H
           replace H : (spec_obStart.l0 k1 t156 a0_0 a0_1) = some (r1, r2) := H
           have A13 := Aside0.mk A130
           clear A130
           have H' := Aside0.mk H
           clear H
           go_wp2_with (first | (go_at_call 61; (with_reducible refine (spec_mpStarts.calls x4_1 t151 _ A3.out).mono ?_); rintro e w14 ⟨v152, rfl, ho0, hb⟩; have n0_ := Aside0.mk (Kd.R_lower (Kd.R_newB ho0 (g := gb150) (o := .cells #[.int .i64 a0_0, .int .i64 a0_1] 25 (0, 0)) (lb BK150.out)) (below_size (lB HB.out))); have n1_ := Aside0.mk (blk_below (lb BK150.out) hb); have n2_ := Aside0.mk (below_step (lB HB.out) hb); clear BK150 HB; have HO153 := n0_; have BK150 := n1_; have HB := n2_; clear n0_ n1_ n2_; (try clear hb); (try clear hb2); (try clear hk); (try clear hi); (try clear ho0); have hcz15_0 : w14.cell? ⟨gb150, 0, none⟩ = some (.int .i64 a0_0) := (blk_cell BK150.out 0).trans rfl; have hcz15_1 : w14.cell? ⟨gb150, 1, none⟩ = some (.int .i64 a0_1) := (blk_cell BK150.out 1).trans rfl; have hfz15_0 := blk_frozen BK150.out 0; have hfz15_1 := blk_frozen BK150.out 1) | (go_at_call 62; (with_reducible refine (spec_mpLeaf.calls x4_1 a0_0 a0_1 t154 _ A4.out).mono ?_); rintro e w16 ⟨rfl, hb⟩; have n0_ := Aside0.mk (Kd.R_below (by (with_reducible repeat (first | apply Kd.R_alloc | apply Kd.R_drewN | apply Kd.R_drew)); exact HO153.out) hb); have n1_ := Aside0.mk (blk_below (lb BK150.out) hb); have n2_ := Aside0.mk (below_step (lB HB.out) hb); clear HO153 BK150 HB; have HO153 := n0_; have BK150 := n1_; have HB := n2_; clear n0_ n1_ n2_; (try clear hb); (try clear hb2); (try clear hk); (try clear hi); obtain ⟨Ao17, co17, eo17⟩ := Kd.R_slice HO153.out; subst eo17; have p155 : 0 ≤ (t154 : Int) := of_decide_eq_true (by first | (with_reducible assumption) | assumption); have q155 : t154 < (t151.length : Int) := of_decide_eq_true (by first | (with_reducible assumption) | assumption); obtain ⟨ad155, e155, hx155_0, hx155_1⟩ := at_T25 (Kd.R_reads' HO153.out).2.2 t154 p155 q155; cases e155; replace p155 := eq_true p155; replace q155 := eq_true q155; have hcz18_0 : w16.cell? ⟨gb150, 0, none⟩ = some (.int .i64 a0_0) := (blk_cell BK150.out 0).trans rfl; have hcz18_1 : w16.cell? ⟨gb150, 1, none⟩ = some (.int .i64 a0_1) := (blk_cell BK150.out 1).trans rfl; have hfz18_0 := blk_frozen BK150.out 0; have hfz18_1 := blk_frozen BK150.out 1) | (go_at_call 29; (with_reducible refine (spec_trGraft.calls x4_1 t154 (⟨#[40, 46, 46, 41]⟩ : ByteArray) t156 _ A13.out).mono ?_); rintro e w' ⟨rfl, ⟨nd, rfl⟩⟩; (try first | exact ⟨rfl, _, World.drewN_drewN _ _ _⟩ | exact ⟨rfl, _, Eq.trans (World.drewN_drewN _ _ _) (congrArg (World.drewN _) (Nat.add_assoc _ _ _))⟩)))
           repeat (go_quiet (first | (go_at_call 61; (with_reducible refine (spec_mpStarts.calls x4_1 t151 _ A3.out).mono ?_); rintro e w14 ⟨v152, rfl, ho0, hb⟩; have n0_ := Aside0.mk (Kd.R_lower (Kd.R_newB ho0 (g := gb150) (o := .cells #[.int .i64 a0_0, .int .i64 a0_1] 25 (0, 0)) (lb BK150.out)) (below_size (lB HB.out))); have n1_ := Aside0.mk (blk_below (lb BK150.out) hb); have n2_ := Aside0.mk (below_step (lB HB.out) hb); clear BK150 HB; have HO153 := n0_; have BK150 := n1_; have HB := n2_; clear n0_ n1_ n2_; (try clear hb); (try clear hb2); (try clear hk); (try clear hi); (try clear ho0); have hcz15_0 : w14.cell? ⟨gb150, 0, none⟩ = some (.int .i64 a0_0) := (blk_cell BK150.out 0).trans rfl; have hcz15_1 : w14.cell? ⟨gb150, 1, none⟩ = some (.int .i64 a0_1) := (blk_cell BK150.out 1).trans rfl; have hfz15_0 := blk_frozen BK150.out 0; have hfz15_1 := blk_frozen BK150.out 1) | (go_at_call 62; (with_reducible refine (spec_mpLeaf.calls x4_1 a0_0 a0_1 t154 _ A4.out).mono ?_); rintro e w16 ⟨rfl, hb⟩; have n0_ := Aside0.mk (Kd.R_below (by (with_reducible repeat (first | apply Kd.R_alloc | apply Kd.R_drewN | apply Kd.R_drew)); exact HO153.out) hb); have n1_ := Aside0.mk (blk_below (lb BK150.out) hb); have n2_ := Aside0.mk (below_step (lB HB.out) hb); clear HO153 BK150 HB; have HO153 := n0_; have BK150 := n1_; have HB := n2_; clear n0_ n1_ n2_; (try clear hb); (try clear hb2); (try clear hk); (try clear hi); obtain ⟨Ao17, co17, eo17⟩ := Kd.R_slice HO153.out; subst eo17; have p155 : 0 ≤ (t154 : Int) := of_decide_eq_true (by first | (with_reducible assumption) | assumption); have q155 : t154 < (t151.length : Int) := of_decide_eq_true (by first | (with_reducible assumption) | assumption); obtain ⟨ad155, e155, hx155_0, hx155_1⟩ := at_T25 (Kd.R_reads' HO153.out).2.2 t154 p155 q155; cases e155; replace p155 := eq_true p155; replace q155 := eq_true q155; have hcz18_0 : w16.cell? ⟨gb150, 0, none⟩ = some (.int .i64 a0_0) := (blk_cell BK150.out 0).trans rfl; have hcz18_1 : w16.cell? ⟨gb150, 1, none⟩ = some (.int .i64 a0_1) := (blk_cell BK150.out 1).trans rfl; have hfz18_0 := blk_frozen BK150.out 0; have hfz18_1 := blk_frozen BK150.out 1) | (go_at_call 29; (with_reducible refine (spec_trGraft.calls x4_1 t154 (⟨#[40, 46, 46, 41]⟩ : ByteArray) t156 _ A13.out).mono ?_); rintro e w' ⟨rfl, ⟨nd, rfl⟩⟩; (try first | exact ⟨rfl, _, World.drewN_drewN _ _ _⟩ | exact ⟨rfl, _, Eq.trans (World.drewN_drewN _ _ _) (congrArg (World.drewN _) (Nat.add_assoc _ _ _))⟩))); try go_wp2_with (first | (go_at_call 61; (with_reducible refine (spec_mpStarts.calls x4_1 t151 _ A3.out).mono ?_); rintro e w14 ⟨v152, rfl, ho0, hb⟩; have n0_ := Aside0.mk (Kd.R_lower (Kd.R_newB ho0 (g := gb150) (o := .cells #[.int .i64 a0_0, .int .i64 a0_1] 25 (0, 0)) (lb BK150.out)) (below_size (lB HB.out))); have n1_ := Aside0.mk (blk_below (lb BK150.out) hb); have n2_ := Aside0.mk (below_step (lB HB.out) hb); clear BK150 HB; have HO153 := n0_; have BK150 := n1_; have HB := n2_; clear n0_ n1_ n2_; (try clear hb); (try clear hb2); (try clear hk); (try clear hi); (try clear ho0); have hcz15_0 : w14.cell? ⟨gb150, 0, none⟩ = some (.int .i64 a0_0) := (blk_cell BK150.out 0).trans rfl; have hcz15_1 : w14.cell? ⟨gb150, 1, none⟩ = some (.int .i64 a0_1) := (blk_cell BK150.out 1).trans rfl; have hfz15_0 := blk_frozen BK150.out 0; have hfz15_1 := blk_frozen BK150.out 1) | (go_at_call 62; (with_reducible refine (spec_mpLeaf.calls x4_1 a0_0 a0_1 t154 _ A4.out).mono ?_); rintro e w16 ⟨rfl, hb⟩; have n0_ := Aside0.mk (Kd.R_below (by (with_reducible repeat (first | apply Kd.R_alloc | apply Kd.R_drewN | apply Kd.R_drew)); exact HO153.out) hb); have n1_ := Aside0.mk (blk_below (lb BK150.out) hb); have n2_ := Aside0.mk (below_step (lB HB.out) hb); clear HO153 BK150 HB; have HO153 := n0_; have BK150 := n1_; have HB := n2_; clear n0_ n1_ n2_; (try clear hb); (try clear hb2); (try clear hk); (try clear hi); obtain ⟨Ao17, co17, eo17⟩ := Kd.R_slice HO153.out; subst eo17; have p155 : 0 ≤ (t154 : Int) := of_decide_eq_true (by first | (with_reducible assumption) | assumption); have q155 : t154 < (t151.length : Int) := of_decide_eq_true (by first | (with_reducible assumption) | assumption); obtain ⟨ad155, e155, hx155_0, hx155_1⟩ := at_T25 (Kd.R_reads' HO153.out).2.2 t154 p155 q155; cases e155; replace p155 := eq_true p155; replace q155 := eq_true q155; have hcz18_0 : w16.cell? ⟨gb150, 0, none⟩ = some (.int .i64 a0_0) := (blk_cell BK150.out 0).trans rfl; have hcz18_1 : w16.cell? ⟨gb150, 1, none⟩ = some (.int .i64 a0_1) := (blk_cell BK150.out 1).trans rfl; have hfz18_0 := blk_frozen BK150.out 0; have hfz18_1 := blk_frozen BK150.out 1) | (go_at_call 29; (with_reducible refine (spec_trGraft.calls x4_1 t154 (⟨#[40, 46, 46, 41]⟩ : ByteArray) t156 _ A13.out).mono ?_); rintro e w' ⟨rfl, ⟨nd, rfl⟩⟩; (try first | exact ⟨rfl, _, World.drewN_drewN _ _ _⟩ | exact ⟨rfl, _, Eq.trans (World.drewN_drewN _ _ _) (congrArg (World.drewN _) (Nat.add_assoc _ _ _))⟩))))
           go_roundg k1
           case measure => have := HK1.out; omega
           case rel => exact ⟨(t156), (by first | rfl | (simp; done) | (simp [*]; done)), H', ⟨by have := HK1.out; omega⟩, ⟨lb BK150.out⟩, ⟨by exact lB HB.out⟩⟩
       · rw [if_neg c6] at H
         exact absurd H (by simp)
     · rw [if_neg c5] at H
       exact absurd H (by simp)
def spec_CarrierOf.j0 : Nat → Bool → Int → Int → Int → Int → Option (ByteArray × ByteArray × Bool)
  | 0, _, _, _, _, _ => none
  | k + 1, x29, x158000, x158001, x159000, x159001 => if x29 = true then (some ((⟨#[]⟩ : ByteArray), (⟨#[]⟩ : ByteArray), false)) else ((spec_obStart.f k x158000 x158001).bind fun bt162 => ((spec_obStart.f k x159000 x159001).bind fun bt164 => ((spec_trCarets.f bt162.1).bind fun t166 => ((spec_trCarets.f bt164.1).bind fun t167 => ((spec_trCarets.f bt162.1).bind fun t168 => ((spec_l1Most.f 0 (wrap64 ((wrap64 ((wrap64 (t167 + 1)) - bt164.2)) - (wrap64 ((wrap64 (t166 + 1)) - bt162.2))))).bind fun t169 => ((spec_trRight.f t169).bind fun t170 => ((spec_trGraft.f bt162.1 t168 t170).bind fun t171 => ((spec_trCarets.f bt164.1).bind fun t172 => ((spec_l1Most.f 0 (wrap64 ((wrap64 ((wrap64 (t166 + 1)) - bt162.2)) - (wrap64 ((wrap64 (t167 + 1)) - bt164.2))))).bind fun t173 => ((spec_trRight.f t173).bind fun t174 => ((spec_trGraft.f bt164.1 t172 t174).bind fun t175 => ((spec_l1Most.f 0 (wrap64 (bt164.2 - bt162.2))).bind fun t176 => ((spec_trRight.f t176).bind fun t177 => ((spec_trGraft.f t171 0 t177).bind fun t178 => ((spec_l1Most.f 0 (wrap64 (bt162.2 - bt164.2))).bind fun t179 => ((spec_trRight.f t179).bind fun t180 => ((spec_trGraft.f t175 0 t180).bind fun t181 => ((spec_prReduce.f t178 t181 ([] : List Int)).bind fun bt182 => ((spec_prIf.f bt182.1 bt182.2).bind fun bt184 => (some (bt184.1, bt184.2.1, bt184.2.2))))))))))))))))))))))
def spec_CarrierOf.f (k : Nat) (a0_0 : Int) (a0_1 : Int) (a1_0 : Int) (a1_1 : Int) : Option (ByteArray × ByteArray × Bool) := (spec_mpGood.f a0_0 a0_1).bind fun t160 => (if t160 = true then ((spec_mpGood.f a1_0 a1_1).bind fun t161 => (if t161 = true then (if a0_1 = 1 then (spec_CarrierOf.j0 k true a0_0 a0_1 a1_0 a1_1) else (spec_CarrierOf.j0 k (a1_1 == 1) a0_0 a0_1 a1_0 a1_1)) else (spec_CarrierOf.j0 k true a0_0 a0_1 a1_0 a1_1))) else (spec_CarrierOf.j0 k true a0_0 a0_1 a1_0 a1_1))
set_option maxHeartbeats 8000000 in
set_option maxRecDepth 100000 in
theorem spec_CarrierOf.calls (k : Nat) (a0_0 : Int) (a0_1 : Int) (a1_0 : Int) (a1_1 : Int) (r1 : ByteArray) (r2 : ByteArray) (r3 : Bool) (w : World) (h : spec_CarrierOf.f k a0_0 a0_1 a1_0 a1_1 = some (r1, r2, r3)) :
    Calls Try.prog 8 #[.agg #[.int .i64 a0_0, .int .i64 a0_1], .agg #[.int .i64 a1_0, .int .i64 a1_1]] w fun e w' => e = .returned (.tuple #[.agg #[.string r1, .string r2], .bool r3]) ∧ Below w.heap.size w w' := by
  have hu25 := Try.underlying25
  have hu29 := Try.underlying29
  have HB := Aside0.mk (Below.refl w.heap.size w)
  have H : ((spec_mpGood.f a0_0 a0_1).bind fun t160 => (if t160 = true then ((spec_mpGood.f a1_0 a1_1).bind fun t161 => (if t161 = true then (if a0_1 = 1 then (spec_CarrierOf.j0 k true a0_0 a0_1 a1_0 a1_1) else (spec_CarrierOf.j0 k (a1_1 == 1) a0_0 a0_1 a1_0 a1_1)) else (spec_CarrierOf.j0 k true a0_0 a0_1 a1_0 a1_1))) else (spec_CarrierOf.j0 k true a0_0 a0_1 a1_0 a1_1))) = some (r1, r2, r3) := h
  clear h
  have HC3 := Aside0.mk H
  clear H
  go_enter Try.func8, Try.ntmps8
  go_upto_region 1 with (first | ((with_reducible refine gate_dst (N := 2) rfl ?_); refine box_event ?hg (N := 2) ?hd (cs := #[.int .i64 a0_0, .int .i64 a0_1]) (t := 25) ?hr ?_; (case hd => rfl); (case hg => rfl); (case hr => exact lr); intro gb157 hg w4 hbox hb; have n0_ := Aside0.mk (below_step (lB HB.out) hb); have n1_ := Aside0.mk (hbox); have n2_ := gw hg (lB HB.out); have n3_ := gw hg (lB HB.out); clear HB; have HB := n0_; have BK157 := n1_; have GW157 := n2_; have GE157 := n3_; clear n0_ n1_ n2_ n3_; clear hb hbox hg) | ((with_reducible refine gate_dst (N := 3) rfl ?_); refine box_event ?hg (N := 3) ?hd (cs := #[.int .i64 a1_0, .int .i64 a1_1]) (t := 25) ?hr ?_; (case hd => rfl); (case hg => rfl); (case hr => exact lr); intro gb158 hg w5 hbox hb; have n0_ := Aside0.mk (blk_below (lb BK157.out) hb); have n1_ := Aside0.mk (below_step (lB HB.out) hb); have n2_ := Aside0.mk (hbox); have n3_ := gw hg (lB HB.out); have n4_ := gw hg (lB HB.out); have n5_ := na hg (lb BK157.out); have n6_ := nz hg (lb BK157.out); clear BK157 HB; have BK157 := n0_; have HB := n1_; have BK158 := n2_; have GW158 := n3_; have GE158 := n4_; have NB157_158 := n5_; have NB158_157 := n6_; clear n0_ n1_ n2_ n3_ n4_ n5_ n6_; clear hb hbox hg) | ((with_reducible refine gate_dst (N := 4) rfl ?_); refine box_event ?hg (N := 4) ?hd (cs := #[.string (⟨#[]⟩ : ByteArray), .string (⟨#[]⟩ : ByteArray)]) (t := 29) ?hr ?_; (case hd => rfl); (case hg => rfl); (case hr => exact lr); intro gb159 hg w6 hbox hb; have n0_ := Aside0.mk (blk_below (lb BK157.out) hb); have n1_ := Aside0.mk (blk_below (lb BK158.out) hb); have n2_ := Aside0.mk (below_step (lB HB.out) hb); have n3_ := Aside0.mk (hbox); have n4_ := gw hg (lB HB.out); have n5_ := gw hg (lB HB.out); have n6_ := na hg (lb BK157.out); have n7_ := nz hg (lb BK157.out); have n8_ := na hg (lb BK158.out); have n9_ := nz hg (lb BK158.out); clear BK157 BK158 HB; have BK157 := n0_; have BK158 := n1_; have HB := n2_; have BK159 := n3_; have GW159 := n4_; have GE159 := n5_; have NB157_159 := n6_; have NB159_157 := n7_; have NB158_159 := n8_; have NB159_158 := n9_; clear n0_ n1_ n2_ n3_ n4_ n5_ n6_ n7_ n8_ n9_; clear hb hbox hg))
  (try simp only [Act.put, List.setIfInBounds_toArray, List.set_cons_zero, List.set_cons_succ])
  go_cut [29] (fun v29 wc => ∃ (kq : Nat) (x29_2 : Bool), v29 = .bool x29_2 ∧ Aside0 (spec_CarrierOf.j0 kq x29_2 a0_0 a0_1 a1_0 a1_1 = some (r1, r2, r3)) ∧ Aside0 (kq ≤ k) ∧ Aside0 (wc.heap[gb157]? = some (.cells #[.int .i64 a0_0, .int .i64 a0_1] 25 (0, 0))) ∧ Aside0 (wc.heap[gb158]? = some (.cells #[.int .i64 a1_0, .int .i64 a1_1] 25 (0, 0))) ∧ Aside0 (wc.heap[gb159]? = some (.cells #[.string (⟨#[]⟩ : ByteArray), .string (⟨#[]⟩ : ByteArray)] 29 (0, 0))) ∧ Aside0 (Below w.heap.size w wc))
  case first =>
   have H := HC3.out
   clear HC3
   replace H := Option.bind_eq_some_iff.mp H
   obtain ⟨t160, A70, H⟩ := H
   replace H : (if t160 = true then ((spec_mpGood.f a1_0 a1_1).bind fun t161 => (if t161 = true then (if a0_1 = 1 then (spec_CarrierOf.j0 k true a0_0 a0_1 a1_0 a1_1) else (spec_CarrierOf.j0 k (a1_1 == 1) a0_0 a0_1 a1_0 a1_1)) else (spec_CarrierOf.j0 k true a0_0 a0_1 a1_0 a1_1))) else (spec_CarrierOf.j0 k true a0_0 a0_1 a1_0 a1_1)) = some (r1, r2, r3) := H
   have A7 := Aside0.mk A70
   clear A70
   by_cases c8 : t160 = true
   rotate_left
   · replace c8 := Bool.eq_false_iff.mpr c8
     subst c8
     rw [if_neg (show ¬ (false = true) by decide)] at H
     have H' := Aside0.mk H
     clear H
     have hnb36 := NB157_158.out
     have hnc36 := NB158_157.out
     have hnb37 := NB157_159.out
     have hnc37 := NB159_157.out
     have hcz38_0 : w6.cell? ⟨gb157, 0, none⟩ = some (.int .i64 a0_0) := (blk_cell BK157.out 0).trans rfl
     have hcz38_1 : w6.cell? ⟨gb157, 1, none⟩ = some (.int .i64 a0_1) := (blk_cell BK157.out 1).trans rfl
     have hfz38_0 := blk_frozen BK157.out 0
     have hfz38_1 := blk_frozen BK157.out 1
     go_wp2_with (first | ((with_reducible refine gate_callee (f := 26) rfl ?_); refine goesL_ (some 13) rfl rfl Try.func26 (by kernel_rfl) rfl #[.agg #[.int .i64 a0_0, .int .i64 a0_1]] rfl lm ?_; (with_reducible refine (spec_mpGood.calls a0_0 a0_1 false _ A7.out).mono ?_); rintro e w39 ⟨rfl, hb⟩; refine ⟨_, rfl, ?_⟩; have n0_ := Aside0.mk (blk_below (lb BK157.out) hb); have n1_ := Aside0.mk (blk_below (lb BK158.out) hb); have n2_ := Aside0.mk (blk_below (lb BK159.out) hb); have n3_ := Aside0.mk (below_step (lB HB.out) hb); clear BK157 BK158 BK159 HB; have BK157 := n0_; have BK158 := n1_; have BK159 := n2_; have HB := n3_; clear n0_ n1_ n2_ n3_; (try clear hb); (try clear hb2); (try clear hk); (try clear hi)))
     go_meet
     case rel => exact ⟨_, (true), (by first | rfl | (simp; done) | (simp [*]; done)), H', ⟨by first | omega | exact Nat.le_refl _⟩, ⟨lb BK157.out⟩, ⟨lb BK158.out⟩, ⟨lb BK159.out⟩, ⟨by exact lB HB.out⟩⟩
   subst c8
   rw [if_pos rfl] at H
   replace H := Option.bind_eq_some_iff.mp H
   obtain ⟨t161, A90, H⟩ := H
   replace H : (if t161 = true then (if a0_1 = 1 then (spec_CarrierOf.j0 k true a0_0 a0_1 a1_0 a1_1) else (spec_CarrierOf.j0 k (a1_1 == 1) a0_0 a0_1 a1_0 a1_1)) else (spec_CarrierOf.j0 k true a0_0 a0_1 a1_0 a1_1)) = some (r1, r2, r3) := H
   have A9 := Aside0.mk A90
   clear A90
   by_cases c10 : t161 = true
   rotate_left
   · replace c10 := Bool.eq_false_iff.mpr c10
     subst c10
     rw [if_neg (show ¬ (false = true) by decide)] at H
     have H' := Aside0.mk H
     clear H
     have hnb29 := NB157_158.out
     have hnc29 := NB158_157.out
     have hnb30 := NB157_159.out
     have hnc30 := NB159_157.out
     have hcz31_0 : w6.cell? ⟨gb157, 0, none⟩ = some (.int .i64 a0_0) := (blk_cell BK157.out 0).trans rfl
     have hcz31_1 : w6.cell? ⟨gb157, 1, none⟩ = some (.int .i64 a0_1) := (blk_cell BK157.out 1).trans rfl
     have hfz31_0 := blk_frozen BK157.out 0
     have hfz31_1 := blk_frozen BK157.out 1
     go_wp2_with (first | ((with_reducible refine gate_callee (f := 26) rfl ?_); refine goesL_ (some 13) rfl rfl Try.func26 (by kernel_rfl) rfl #[.agg #[.int .i64 a0_0, .int .i64 a0_1]] rfl lm ?_; (with_reducible refine (spec_mpGood.calls a0_0 a0_1 true _ A7.out).mono ?_); rintro e w32 ⟨rfl, hb⟩; refine ⟨_, rfl, ?_⟩; have n0_ := Aside0.mk (blk_below (lb BK157.out) hb); have n1_ := Aside0.mk (blk_below (lb BK158.out) hb); have n2_ := Aside0.mk (blk_below (lb BK159.out) hb); have n3_ := Aside0.mk (below_step (lB HB.out) hb); clear BK157 BK158 BK159 HB; have BK157 := n0_; have BK158 := n1_; have BK159 := n2_; have HB := n3_; clear n0_ n1_ n2_ n3_; (try clear hb); (try clear hb2); (try clear hk); (try clear hi); have hnb33 := NB158_159.out; have hnc33 := NB159_158.out; have hcz34_0 : w32.cell? ⟨gb158, 0, none⟩ = some (.int .i64 a1_0) := (blk_cell BK158.out 0).trans rfl; have hcz34_1 : w32.cell? ⟨gb158, 1, none⟩ = some (.int .i64 a1_1) := (blk_cell BK158.out 1).trans rfl; have hfz34_0 := blk_frozen BK158.out 0; have hfz34_1 := blk_frozen BK158.out 1) | (go_at_call 26; (with_reducible refine (spec_mpGood.calls a1_0 a1_1 false _ A9.out).mono ?_); rintro e w35 ⟨rfl, hb⟩; have n0_ := Aside0.mk (blk_below (lb BK157.out) hb); have n1_ := Aside0.mk (blk_below (lb BK158.out) hb); have n2_ := Aside0.mk (blk_below (lb BK159.out) hb); have n3_ := Aside0.mk (below_step (lB HB.out) hb); clear BK157 BK158 BK159 HB; have BK157 := n0_; have BK158 := n1_; have BK159 := n2_; have HB := n3_; clear n0_ n1_ n2_ n3_; (try clear hb); (try clear hb2); (try clear hk); (try clear hi)))
     go_meet
     case rel => exact ⟨_, (true), (by first | rfl | (simp; done) | (simp [*]; done)), H', ⟨by first | omega | exact Nat.le_refl _⟩, ⟨lb BK157.out⟩, ⟨lb BK158.out⟩, ⟨lb BK159.out⟩, ⟨by exact lB HB.out⟩⟩
   subst c10
   rw [if_pos rfl] at H
   by_cases c11 : a0_1 = 1
   · rw [if_pos c11] at H
     have c11b0 : (a0_1 == 1) = true := beq_iff_eq.mpr c11
     have c11b1 : (a0_1 != 1) = false := bne_eq_false_iff_eq.mpr c11
     clear c11
     (first | rw [c11b0] | (simp only [i64_w, i32_w]; rw [c11b0]) | skip)
     have H' := Aside0.mk H
     clear H
     have hnb12 := NB157_158.out
     have hnc12 := NB158_157.out
     have hnb13 := NB157_159.out
     have hnc13 := NB159_157.out
     have hcz14_0 : w6.cell? ⟨gb157, 0, none⟩ = some (.int .i64 a0_0) := (blk_cell BK157.out 0).trans rfl
     have hcz14_1 : w6.cell? ⟨gb157, 1, none⟩ = some (.int .i64 a0_1) := (blk_cell BK157.out 1).trans rfl
     have hfz14_0 := blk_frozen BK157.out 0
     have hfz14_1 := blk_frozen BK157.out 1
     go_wp2_with (first | ((with_reducible refine gate_callee (f := 26) rfl ?_); refine goesL_ (some 13) rfl rfl Try.func26 (by kernel_rfl) rfl #[.agg #[.int .i64 a0_0, .int .i64 a0_1]] rfl lm ?_; (with_reducible refine (spec_mpGood.calls a0_0 a0_1 true _ A7.out).mono ?_); rintro e w15 ⟨rfl, hb⟩; refine ⟨_, rfl, ?_⟩; have n0_ := Aside0.mk (blk_below (lb BK157.out) hb); have n1_ := Aside0.mk (blk_below (lb BK158.out) hb); have n2_ := Aside0.mk (blk_below (lb BK159.out) hb); have n3_ := Aside0.mk (below_step (lB HB.out) hb); clear BK157 BK158 BK159 HB; have BK157 := n0_; have BK158 := n1_; have BK159 := n2_; have HB := n3_; clear n0_ n1_ n2_ n3_; (try clear hb); (try clear hb2); (try clear hk); (try clear hi); have hnb16 := NB158_159.out; have hnc16 := NB159_158.out; have hcz17_0 : w15.cell? ⟨gb158, 0, none⟩ = some (.int .i64 a1_0) := (blk_cell BK158.out 0).trans rfl; have hcz17_1 : w15.cell? ⟨gb158, 1, none⟩ = some (.int .i64 a1_1) := (blk_cell BK158.out 1).trans rfl; have hfz17_0 := blk_frozen BK158.out 0; have hfz17_1 := blk_frozen BK158.out 1) | (go_at_call 26; (with_reducible refine (spec_mpGood.calls a1_0 a1_1 true _ A9.out).mono ?_); rintro e w18 ⟨rfl, hb⟩; have n0_ := Aside0.mk (blk_below (lb BK157.out) hb); have n1_ := Aside0.mk (blk_below (lb BK158.out) hb); have n2_ := Aside0.mk (blk_below (lb BK159.out) hb); have n3_ := Aside0.mk (below_step (lB HB.out) hb); clear BK157 BK158 BK159 HB; have BK157 := n0_; have BK158 := n1_; have BK159 := n2_; have HB := n3_; clear n0_ n1_ n2_ n3_; (try clear hb); (try clear hb2); (try clear hk); (try clear hi); have hcz19_0 : w18.cell? ⟨gb157, 0, none⟩ = some (.int .i64 a0_0) := (blk_cell BK157.out 0).trans rfl; have hcz19_1 : w18.cell? ⟨gb157, 1, none⟩ = some (.int .i64 a0_1) := (blk_cell BK157.out 1).trans rfl; have hfz19_0 := blk_frozen BK157.out 0; have hfz19_1 := blk_frozen BK157.out 1))
     go_meet
     case rel => exact ⟨_, (true), (by first | rfl | (simp; done) | (simp [*]; done)), H', ⟨by first | omega | exact Nat.le_refl _⟩, ⟨lb BK157.out⟩, ⟨lb BK158.out⟩, ⟨lb BK159.out⟩, ⟨by exact lB HB.out⟩⟩
   rw [if_neg c11] at H
   have c11b0 : (a0_1 == 1) = false := beq_eq_false_iff_ne.mpr c11
   have c11b1 : (a0_1 != 1) = true := bne_iff_ne.mpr c11
   (first | rw [c11b0] | (simp only [i64_w, i32_w]; rw [c11b0]) | skip)
   have H' := Aside0.mk H
   clear H
   have hnb20 := NB157_158.out
   have hnc20 := NB158_157.out
   have hnb21 := NB157_159.out
   have hnc21 := NB159_157.out
   have hcz22_0 : w6.cell? ⟨gb157, 0, none⟩ = some (.int .i64 a0_0) := (blk_cell BK157.out 0).trans rfl
   have hcz22_1 : w6.cell? ⟨gb157, 1, none⟩ = some (.int .i64 a0_1) := (blk_cell BK157.out 1).trans rfl
   have hfz22_0 := blk_frozen BK157.out 0
   have hfz22_1 := blk_frozen BK157.out 1
   go_wp2_with (first | ((with_reducible refine gate_callee (f := 26) rfl ?_); refine goesL_ (some 13) rfl rfl Try.func26 (by kernel_rfl) rfl #[.agg #[.int .i64 a0_0, .int .i64 a0_1]] rfl lm ?_; (with_reducible refine (spec_mpGood.calls a0_0 a0_1 true _ A7.out).mono ?_); rintro e w23 ⟨rfl, hb⟩; refine ⟨_, rfl, ?_⟩; have n0_ := Aside0.mk (blk_below (lb BK157.out) hb); have n1_ := Aside0.mk (blk_below (lb BK158.out) hb); have n2_ := Aside0.mk (blk_below (lb BK159.out) hb); have n3_ := Aside0.mk (below_step (lB HB.out) hb); clear BK157 BK158 BK159 HB; have BK157 := n0_; have BK158 := n1_; have BK159 := n2_; have HB := n3_; clear n0_ n1_ n2_ n3_; (try clear hb); (try clear hb2); (try clear hk); (try clear hi); have hnb24 := NB158_159.out; have hnc24 := NB159_158.out; have hcz25_0 : w23.cell? ⟨gb158, 0, none⟩ = some (.int .i64 a1_0) := (blk_cell BK158.out 0).trans rfl; have hcz25_1 : w23.cell? ⟨gb158, 1, none⟩ = some (.int .i64 a1_1) := (blk_cell BK158.out 1).trans rfl; have hfz25_0 := blk_frozen BK158.out 0; have hfz25_1 := blk_frozen BK158.out 1) | (go_at_call 26; (with_reducible refine (spec_mpGood.calls a1_0 a1_1 true _ A9.out).mono ?_); rintro e w26 ⟨rfl, hb⟩; have n0_ := Aside0.mk (blk_below (lb BK157.out) hb); have n1_ := Aside0.mk (blk_below (lb BK158.out) hb); have n2_ := Aside0.mk (blk_below (lb BK159.out) hb); have n3_ := Aside0.mk (below_step (lB HB.out) hb); clear BK157 BK158 BK159 HB; have BK157 := n0_; have BK158 := n1_; have BK159 := n2_; have HB := n3_; clear n0_ n1_ n2_ n3_; (try clear hb); (try clear hb2); (try clear hk); (try clear hi); have hcz27_0 : w26.cell? ⟨gb157, 0, none⟩ = some (.int .i64 a0_0) := (blk_cell BK157.out 0).trans rfl; have hcz27_1 : w26.cell? ⟨gb157, 1, none⟩ = some (.int .i64 a0_1) := (blk_cell BK157.out 1).trans rfl; have hfz27_0 := blk_frozen BK157.out 0; have hfz27_1 := blk_frozen BK157.out 1; have hcz28_0 : w26.cell? ⟨gb158, 0, none⟩ = some (.int .i64 a1_0) := (blk_cell BK158.out 0).trans rfl; have hcz28_1 : w26.cell? ⟨gb158, 1, none⟩ = some (.int .i64 a1_1) := (blk_cell BK158.out 1).trans rfl; have hfz28_0 := blk_frozen BK158.out 0; have hfz28_1 := blk_frozen BK158.out 1))
   go_meet
   case rel => exact ⟨_, ((a1_1 == 1)), (by first | rfl | (simp; done) | (simp [*]; done)), H', ⟨by first | omega | exact Nat.le_refl _⟩, ⟨lb BK157.out⟩, ⟨lb BK158.out⟩, ⟨lb BK159.out⟩, ⟨by exact lB HB.out⟩⟩
  case rest =>
  clear HC3
  obtain ⟨kq, x29_2, rfl, HA, HJ2, BK157, BK158, BK159, HB⟩ := hcut
  cases kq with
  | zero => exact absurd HA.out (by simp [spec_CarrierOf.j0])
  | succ kj2 =>
   have H := HA.out
   clear HA
   simp only [spec_CarrierOf.j0] at H
   by_cases c40 : x29_2 = true
   · subst c40
     rw [if_pos rfl] at H
     simp only [Option.some.injEq, Prod.mk.injEq] at H
     obtain ⟨rfl, rfl, rfl⟩ := H
     have hnb41 := NB159_157.out
     have hnc41 := NB157_159.out
     have hnb42 := NB159_158.out
     have hnc42 := NB158_159.out
     have hcz43_0 : wc.cell? ⟨gb159, 0, none⟩ = some (.string (⟨#[]⟩ : ByteArray)) := (blk_cell BK159.out 0).trans rfl
     have hcz43_1 : wc.cell? ⟨gb159, 1, none⟩ = some (.string (⟨#[]⟩ : ByteArray)) := (blk_cell BK159.out 1).trans rfl
     have hfz43_0 := blk_frozen BK159.out 0
     have hfz43_1 := blk_frozen BK159.out 1
     go_wp2
     refine bodyPost_ret (results_ct rfl _ _ gb159 29 #[.string (⟨#[]⟩ : ByteArray), .string (⟨#[]⟩ : ByteArray)] (0, 0) _ rfl (by (with_reducible repeat (first | refine blk_drewN ?_ _ | refine blk_drew ?_ | refine blk_alloc ?_ _)); refine blk_put (cs := #[.string (⟨#[]⟩ : ByteArray), .string (⟨#[]⟩ : ByteArray)]) ?_ 1 _ rfl; (with_reducible repeat (first | refine blk_drewN ?_ _ | refine blk_drew ?_ | refine blk_alloc ?_ _)); refine blk_put (cs := #[.string (⟨#[]⟩ : ByteArray), .string (⟨#[]⟩ : ByteArray)]) ?_ 0 _ rfl; exact lb BK159.out) Try.underlying29 rfl (by kernel_rfl)) rfl ?_
     exact ⟨lx, by exact lB HB.out⟩
   replace c40 := Bool.eq_false_iff.mpr c40
   subst c40
   rw [if_neg (show ¬ (false = true) by decide)] at H
   replace H := Option.bind_eq_some_iff.mp H
   obtain ⟨⟨t162, t163⟩, A440, H⟩ := H
   replace H : ((spec_obStart.f kj2 a1_0 a1_1).bind fun bt164 => ((spec_trCarets.f t162).bind fun t166 => ((spec_trCarets.f bt164.1).bind fun t167 => ((spec_trCarets.f t162).bind fun t168 => ((spec_l1Most.f 0 (wrap64 ((wrap64 ((wrap64 (t167 + 1)) - bt164.2)) - (wrap64 ((wrap64 (t166 + 1)) - t163))))).bind fun t169 => ((spec_trRight.f t169).bind fun t170 => ((spec_trGraft.f t162 t168 t170).bind fun t171 => ((spec_trCarets.f bt164.1).bind fun t172 => ((spec_l1Most.f 0 (wrap64 ((wrap64 ((wrap64 (t166 + 1)) - t163)) - (wrap64 ((wrap64 (t167 + 1)) - bt164.2))))).bind fun t173 => ((spec_trRight.f t173).bind fun t174 => ((spec_trGraft.f bt164.1 t172 t174).bind fun t175 => ((spec_l1Most.f 0 (wrap64 (bt164.2 - t163))).bind fun t176 => ((spec_trRight.f t176).bind fun t177 => ((spec_trGraft.f t171 0 t177).bind fun t178 => ((spec_l1Most.f 0 (wrap64 (t163 - bt164.2))).bind fun t179 => ((spec_trRight.f t179).bind fun t180 => ((spec_trGraft.f t175 0 t180).bind fun t181 => ((spec_prReduce.f t178 t181 ([] : List Int)).bind fun bt182 => ((spec_prIf.f bt182.1 bt182.2).bind fun bt184 => (some (bt184.1, bt184.2.1, bt184.2.2))))))))))))))))))))) = some (r1, r2, r3) := H
   have A44 := Aside0.mk A440
   clear A440
   replace H := Option.bind_eq_some_iff.mp H
   obtain ⟨⟨t164, t165⟩, A450, H⟩ := H
   replace H : ((spec_trCarets.f t162).bind fun t166 => ((spec_trCarets.f t164).bind fun t167 => ((spec_trCarets.f t162).bind fun t168 => ((spec_l1Most.f 0 (wrap64 ((wrap64 ((wrap64 (t167 + 1)) - t165)) - (wrap64 ((wrap64 (t166 + 1)) - t163))))).bind fun t169 => ((spec_trRight.f t169).bind fun t170 => ((spec_trGraft.f t162 t168 t170).bind fun t171 => ((spec_trCarets.f t164).bind fun t172 => ((spec_l1Most.f 0 (wrap64 ((wrap64 ((wrap64 (t166 + 1)) - t163)) - (wrap64 ((wrap64 (t167 + 1)) - t165))))).bind fun t173 => ((spec_trRight.f t173).bind fun t174 => ((spec_trGraft.f t164 t172 t174).bind fun t175 => ((spec_l1Most.f 0 (wrap64 (t165 - t163))).bind fun t176 => ((spec_trRight.f t176).bind fun t177 => ((spec_trGraft.f t171 0 t177).bind fun t178 => ((spec_l1Most.f 0 (wrap64 (t163 - t165))).bind fun t179 => ((spec_trRight.f t179).bind fun t180 => ((spec_trGraft.f t175 0 t180).bind fun t181 => ((spec_prReduce.f t178 t181 ([] : List Int)).bind fun bt182 => ((spec_prIf.f bt182.1 bt182.2).bind fun bt184 => (some (bt184.1, bt184.2.1, bt184.2.2)))))))))))))))))))) = some (r1, r2, r3) := H
   have A45 := Aside0.mk A450
   clear A450
   replace H := Option.bind_eq_some_iff.mp H
   obtain ⟨t166, A460, H⟩ := H
   replace H : ((spec_trCarets.f t164).bind fun t167 => ((spec_trCarets.f t162).bind fun t168 => ((spec_l1Most.f 0 (wrap64 ((wrap64 ((wrap64 (t167 + 1)) - t165)) - (wrap64 ((wrap64 (t166 + 1)) - t163))))).bind fun t169 => ((spec_trRight.f t169).bind fun t170 => ((spec_trGraft.f t162 t168 t170).bind fun t171 => ((spec_trCarets.f t164).bind fun t172 => ((spec_l1Most.f 0 (wrap64 ((wrap64 ((wrap64 (t166 + 1)) - t163)) - (wrap64 ((wrap64 (t167 + 1)) - t165))))).bind fun t173 => ((spec_trRight.f t173).bind fun t174 => ((spec_trGraft.f t164 t172 t174).bind fun t175 => ((spec_l1Most.f 0 (wrap64 (t165 - t163))).bind fun t176 => ((spec_trRight.f t176).bind fun t177 => ((spec_trGraft.f t171 0 t177).bind fun t178 => ((spec_l1Most.f 0 (wrap64 (t163 - t165))).bind fun t179 => ((spec_trRight.f t179).bind fun t180 => ((spec_trGraft.f t175 0 t180).bind fun t181 => ((spec_prReduce.f t178 t181 ([] : List Int)).bind fun bt182 => ((spec_prIf.f bt182.1 bt182.2).bind fun bt184 => (some (bt184.1, bt184.2.1, bt184.2.2))))))))))))))))))) = some (r1, r2, r3) := H
   have A46 := Aside0.mk A460
   clear A460
   replace H := Option.bind_eq_some_iff.mp H
   obtain ⟨t167, A470, H⟩ := H
   replace H : ((spec_trCarets.f t162).bind fun t168 => ((spec_l1Most.f 0 (wrap64 ((wrap64 ((wrap64 (t167 + 1)) - t165)) - (wrap64 ((wrap64 (t166 + 1)) - t163))))).bind fun t169 => ((spec_trRight.f t169).bind fun t170 => ((spec_trGraft.f t162 t168 t170).bind fun t171 => ((spec_trCarets.f t164).bind fun t172 => ((spec_l1Most.f 0 (wrap64 ((wrap64 ((wrap64 (t166 + 1)) - t163)) - (wrap64 ((wrap64 (t167 + 1)) - t165))))).bind fun t173 => ((spec_trRight.f t173).bind fun t174 => ((spec_trGraft.f t164 t172 t174).bind fun t175 => ((spec_l1Most.f 0 (wrap64 (t165 - t163))).bind fun t176 => ((spec_trRight.f t176).bind fun t177 => ((spec_trGraft.f t171 0 t177).bind fun t178 => ((spec_l1Most.f 0 (wrap64 (t163 - t165))).bind fun t179 => ((spec_trRight.f t179).bind fun t180 => ((spec_trGraft.f t175 0 t180).bind fun t181 => ((spec_prReduce.f t178 t181 ([] : List Int)).bind fun bt182 => ((spec_prIf.f bt182.1 bt182.2).bind fun bt184 => (some (bt184.1, bt184.2.1, bt184.2.2)))))))))))))))))) = some (r1, r2, r3) := H
   have A47 := Aside0.mk A470
   clear A470
   replace H := Option.bind_eq_some_iff.mp H
   obtain ⟨t168, A480, H⟩ := H
   replace H : ((spec_l1Most.f 0 (wrap64 ((wrap64 ((wrap64 (t167 + 1)) - t165)) - (wrap64 ((wrap64 (t166 + 1)) - t163))))).bind fun t169 => ((spec_trRight.f t169).bind fun t170 => ((spec_trGraft.f t162 t168 t170).bind fun t171 => ((spec_trCarets.f t164).bind fun t172 => ((spec_l1Most.f 0 (wrap64 ((wrap64 ((wrap64 (t166 + 1)) - t163)) - (wrap64 ((wrap64 (t167 + 1)) - t165))))).bind fun t173 => ((spec_trRight.f t173).bind fun t174 => ((spec_trGraft.f t164 t172 t174).bind fun t175 => ((spec_l1Most.f 0 (wrap64 (t165 - t163))).bind fun t176 => ((spec_trRight.f t176).bind fun t177 => ((spec_trGraft.f t171 0 t177).bind fun t178 => ((spec_l1Most.f 0 (wrap64 (t163 - t165))).bind fun t179 => ((spec_trRight.f t179).bind fun t180 => ((spec_trGraft.f t175 0 t180).bind fun t181 => ((spec_prReduce.f t178 t181 ([] : List Int)).bind fun bt182 => ((spec_prIf.f bt182.1 bt182.2).bind fun bt184 => (some (bt184.1, bt184.2.1, bt184.2.2))))))))))))))))) = some (r1, r2, r3) := H
   have A48 := Aside0.mk A480
   clear A480
   replace H := Option.bind_eq_some_iff.mp H
   obtain ⟨t169, A490, H⟩ := H
   replace H : ((spec_trRight.f t169).bind fun t170 => ((spec_trGraft.f t162 t168 t170).bind fun t171 => ((spec_trCarets.f t164).bind fun t172 => ((spec_l1Most.f 0 (wrap64 ((wrap64 ((wrap64 (t166 + 1)) - t163)) - (wrap64 ((wrap64 (t167 + 1)) - t165))))).bind fun t173 => ((spec_trRight.f t173).bind fun t174 => ((spec_trGraft.f t164 t172 t174).bind fun t175 => ((spec_l1Most.f 0 (wrap64 (t165 - t163))).bind fun t176 => ((spec_trRight.f t176).bind fun t177 => ((spec_trGraft.f t171 0 t177).bind fun t178 => ((spec_l1Most.f 0 (wrap64 (t163 - t165))).bind fun t179 => ((spec_trRight.f t179).bind fun t180 => ((spec_trGraft.f t175 0 t180).bind fun t181 => ((spec_prReduce.f t178 t181 ([] : List Int)).bind fun bt182 => ((spec_prIf.f bt182.1 bt182.2).bind fun bt184 => (some (bt184.1, bt184.2.1, bt184.2.2)))))))))))))))) = some (r1, r2, r3) := H
   have A49 := Aside0.mk A490
   clear A490
   replace H := Option.bind_eq_some_iff.mp H
   obtain ⟨t170, A500, H⟩ := H
   replace H : ((spec_trGraft.f t162 t168 t170).bind fun t171 => ((spec_trCarets.f t164).bind fun t172 => ((spec_l1Most.f 0 (wrap64 ((wrap64 ((wrap64 (t166 + 1)) - t163)) - (wrap64 ((wrap64 (t167 + 1)) - t165))))).bind fun t173 => ((spec_trRight.f t173).bind fun t174 => ((spec_trGraft.f t164 t172 t174).bind fun t175 => ((spec_l1Most.f 0 (wrap64 (t165 - t163))).bind fun t176 => ((spec_trRight.f t176).bind fun t177 => ((spec_trGraft.f t171 0 t177).bind fun t178 => ((spec_l1Most.f 0 (wrap64 (t163 - t165))).bind fun t179 => ((spec_trRight.f t179).bind fun t180 => ((spec_trGraft.f t175 0 t180).bind fun t181 => ((spec_prReduce.f t178 t181 ([] : List Int)).bind fun bt182 => ((spec_prIf.f bt182.1 bt182.2).bind fun bt184 => (some (bt184.1, bt184.2.1, bt184.2.2))))))))))))))) = some (r1, r2, r3) := H
   have A50 := Aside0.mk A500
   clear A500
   replace H := Option.bind_eq_some_iff.mp H
   obtain ⟨t171, A510, H⟩ := H
   replace H : ((spec_trCarets.f t164).bind fun t172 => ((spec_l1Most.f 0 (wrap64 ((wrap64 ((wrap64 (t166 + 1)) - t163)) - (wrap64 ((wrap64 (t167 + 1)) - t165))))).bind fun t173 => ((spec_trRight.f t173).bind fun t174 => ((spec_trGraft.f t164 t172 t174).bind fun t175 => ((spec_l1Most.f 0 (wrap64 (t165 - t163))).bind fun t176 => ((spec_trRight.f t176).bind fun t177 => ((spec_trGraft.f t171 0 t177).bind fun t178 => ((spec_l1Most.f 0 (wrap64 (t163 - t165))).bind fun t179 => ((spec_trRight.f t179).bind fun t180 => ((spec_trGraft.f t175 0 t180).bind fun t181 => ((spec_prReduce.f t178 t181 ([] : List Int)).bind fun bt182 => ((spec_prIf.f bt182.1 bt182.2).bind fun bt184 => (some (bt184.1, bt184.2.1, bt184.2.2)))))))))))))) = some (r1, r2, r3) := H
   have A51 := Aside0.mk A510
   clear A510
   replace H := Option.bind_eq_some_iff.mp H
   obtain ⟨t172, A520, H⟩ := H
   replace H : ((spec_l1Most.f 0 (wrap64 ((wrap64 ((wrap64 (t166 + 1)) - t163)) - (wrap64 ((wrap64 (t167 + 1)) - t165))))).bind fun t173 => ((spec_trRight.f t173).bind fun t174 => ((spec_trGraft.f t164 t172 t174).bind fun t175 => ((spec_l1Most.f 0 (wrap64 (t165 - t163))).bind fun t176 => ((spec_trRight.f t176).bind fun t177 => ((spec_trGraft.f t171 0 t177).bind fun t178 => ((spec_l1Most.f 0 (wrap64 (t163 - t165))).bind fun t179 => ((spec_trRight.f t179).bind fun t180 => ((spec_trGraft.f t175 0 t180).bind fun t181 => ((spec_prReduce.f t178 t181 ([] : List Int)).bind fun bt182 => ((spec_prIf.f bt182.1 bt182.2).bind fun bt184 => (some (bt184.1, bt184.2.1, bt184.2.2))))))))))))) = some (r1, r2, r3) := H
   have A52 := Aside0.mk A520
   clear A520
   replace H := Option.bind_eq_some_iff.mp H
   obtain ⟨t173, A530, H⟩ := H
   replace H : ((spec_trRight.f t173).bind fun t174 => ((spec_trGraft.f t164 t172 t174).bind fun t175 => ((spec_l1Most.f 0 (wrap64 (t165 - t163))).bind fun t176 => ((spec_trRight.f t176).bind fun t177 => ((spec_trGraft.f t171 0 t177).bind fun t178 => ((spec_l1Most.f 0 (wrap64 (t163 - t165))).bind fun t179 => ((spec_trRight.f t179).bind fun t180 => ((spec_trGraft.f t175 0 t180).bind fun t181 => ((spec_prReduce.f t178 t181 ([] : List Int)).bind fun bt182 => ((spec_prIf.f bt182.1 bt182.2).bind fun bt184 => (some (bt184.1, bt184.2.1, bt184.2.2)))))))))))) = some (r1, r2, r3) := H
   have A53 := Aside0.mk A530
   clear A530
   replace H := Option.bind_eq_some_iff.mp H
   obtain ⟨t174, A540, H⟩ := H
   replace H : ((spec_trGraft.f t164 t172 t174).bind fun t175 => ((spec_l1Most.f 0 (wrap64 (t165 - t163))).bind fun t176 => ((spec_trRight.f t176).bind fun t177 => ((spec_trGraft.f t171 0 t177).bind fun t178 => ((spec_l1Most.f 0 (wrap64 (t163 - t165))).bind fun t179 => ((spec_trRight.f t179).bind fun t180 => ((spec_trGraft.f t175 0 t180).bind fun t181 => ((spec_prReduce.f t178 t181 ([] : List Int)).bind fun bt182 => ((spec_prIf.f bt182.1 bt182.2).bind fun bt184 => (some (bt184.1, bt184.2.1, bt184.2.2))))))))))) = some (r1, r2, r3) := H
   have A54 := Aside0.mk A540
   clear A540
   replace H := Option.bind_eq_some_iff.mp H
   obtain ⟨t175, A550, H⟩ := H
   replace H : ((spec_l1Most.f 0 (wrap64 (t165 - t163))).bind fun t176 => ((spec_trRight.f t176).bind fun t177 => ((spec_trGraft.f t171 0 t177).bind fun t178 => ((spec_l1Most.f 0 (wrap64 (t163 - t165))).bind fun t179 => ((spec_trRight.f t179).bind fun t180 => ((spec_trGraft.f t175 0 t180).bind fun t181 => ((spec_prReduce.f t178 t181 ([] : List Int)).bind fun bt182 => ((spec_prIf.f bt182.1 bt182.2).bind fun bt184 => (some (bt184.1, bt184.2.1, bt184.2.2)))))))))) = some (r1, r2, r3) := H
   have A55 := Aside0.mk A550
   clear A550
   replace H := Option.bind_eq_some_iff.mp H
   obtain ⟨t176, A560, H⟩ := H
   replace H : ((spec_trRight.f t176).bind fun t177 => ((spec_trGraft.f t171 0 t177).bind fun t178 => ((spec_l1Most.f 0 (wrap64 (t163 - t165))).bind fun t179 => ((spec_trRight.f t179).bind fun t180 => ((spec_trGraft.f t175 0 t180).bind fun t181 => ((spec_prReduce.f t178 t181 ([] : List Int)).bind fun bt182 => ((spec_prIf.f bt182.1 bt182.2).bind fun bt184 => (some (bt184.1, bt184.2.1, bt184.2.2))))))))) = some (r1, r2, r3) := H
   have A56 := Aside0.mk A560
   clear A560
   replace H := Option.bind_eq_some_iff.mp H
   obtain ⟨t177, A570, H⟩ := H
   replace H : ((spec_trGraft.f t171 0 t177).bind fun t178 => ((spec_l1Most.f 0 (wrap64 (t163 - t165))).bind fun t179 => ((spec_trRight.f t179).bind fun t180 => ((spec_trGraft.f t175 0 t180).bind fun t181 => ((spec_prReduce.f t178 t181 ([] : List Int)).bind fun bt182 => ((spec_prIf.f bt182.1 bt182.2).bind fun bt184 => (some (bt184.1, bt184.2.1, bt184.2.2)))))))) = some (r1, r2, r3) := H
   have A57 := Aside0.mk A570
   clear A570
   replace H := Option.bind_eq_some_iff.mp H
   obtain ⟨t178, A580, H⟩ := H
   replace H : ((spec_l1Most.f 0 (wrap64 (t163 - t165))).bind fun t179 => ((spec_trRight.f t179).bind fun t180 => ((spec_trGraft.f t175 0 t180).bind fun t181 => ((spec_prReduce.f t178 t181 ([] : List Int)).bind fun bt182 => ((spec_prIf.f bt182.1 bt182.2).bind fun bt184 => (some (bt184.1, bt184.2.1, bt184.2.2))))))) = some (r1, r2, r3) := H
   have A58 := Aside0.mk A580
   clear A580
   replace H := Option.bind_eq_some_iff.mp H
   obtain ⟨t179, A590, H⟩ := H
   replace H : ((spec_trRight.f t179).bind fun t180 => ((spec_trGraft.f t175 0 t180).bind fun t181 => ((spec_prReduce.f t178 t181 ([] : List Int)).bind fun bt182 => ((spec_prIf.f bt182.1 bt182.2).bind fun bt184 => (some (bt184.1, bt184.2.1, bt184.2.2)))))) = some (r1, r2, r3) := H
   have A59 := Aside0.mk A590
   clear A590
   replace H := Option.bind_eq_some_iff.mp H
   obtain ⟨t180, A600, H⟩ := H
   replace H : ((spec_trGraft.f t175 0 t180).bind fun t181 => ((spec_prReduce.f t178 t181 ([] : List Int)).bind fun bt182 => ((spec_prIf.f bt182.1 bt182.2).bind fun bt184 => (some (bt184.1, bt184.2.1, bt184.2.2))))) = some (r1, r2, r3) := H
   have A60 := Aside0.mk A600
   clear A600
   replace H := Option.bind_eq_some_iff.mp H
   obtain ⟨t181, A610, H⟩ := H
   replace H : ((spec_prReduce.f t178 t181 ([] : List Int)).bind fun bt182 => ((spec_prIf.f bt182.1 bt182.2).bind fun bt184 => (some (bt184.1, bt184.2.1, bt184.2.2)))) = some (r1, r2, r3) := H
   have A61 := Aside0.mk A610
   clear A610
   replace H := Option.bind_eq_some_iff.mp H
   obtain ⟨⟨t182, t183⟩, A620, H⟩ := H
   replace H : ((spec_prIf.f t182 t183).bind fun bt184 => (some (bt184.1, bt184.2.1, bt184.2.2))) = some (r1, r2, r3) := H
   have A62 := Aside0.mk A620
   clear A620
   replace H := Option.bind_eq_some_iff.mp H
   obtain ⟨⟨t184, t185, t186⟩, A630, H⟩ := H
   replace H : (some (t184, t185, t186)) = some (r1, r2, r3) := H
   have A63 := Aside0.mk A630
   clear A630
   simp only [Option.some.injEq, Prod.mk.injEq] at H
   obtain ⟨rfl, rfl, rfl⟩ := H
   have hnb64 := NB157_158.out
   have hnc64 := NB158_157.out
   have hnb65 := NB157_159.out
   have hnc65 := NB159_157.out
   have hcz66_0 : wc.cell? ⟨gb157, 0, none⟩ = some (.int .i64 a0_0) := (blk_cell BK157.out 0).trans rfl
   have hcz66_1 : wc.cell? ⟨gb157, 1, none⟩ = some (.int .i64 a0_1) := (blk_cell BK157.out 1).trans rfl
   have hfz66_0 := blk_frozen BK157.out 0
   have hfz66_1 := blk_frozen BK157.out 1
   go_wp2_with (first | ((with_reducible refine gate_callee (f := 27) rfl ?_); refine goesL_ (some 33) rfl rfl Try.func27 (by kernel_rfl) rfl #[.agg #[.int .i64 a0_0, .int .i64 a0_1]] rfl lm ?_; (with_reducible refine (spec_obStart.calls kj2 a0_0 a0_1 t162 t163 _ A44.out).mono ?_); rintro e w67 ⟨rfl, hb⟩; refine ⟨_, rfl, ?_⟩; have n0_ := Aside0.mk (blk_below (lb BK157.out) hb); have n1_ := Aside0.mk (blk_below (lb BK158.out) hb); have n2_ := Aside0.mk (blk_below (lb BK159.out) hb); have n3_ := Aside0.mk (below_step (lB HB.out) hb); clear BK157 BK158 BK159 HB; have BK157 := n0_; have BK158 := n1_; have BK159 := n2_; have HB := n3_; clear n0_ n1_ n2_ n3_; (try clear hb); (try clear hb2); (try clear hk); (try clear hi); have hnb68 := NB158_159.out; have hnc68 := NB159_158.out; have hcz69_0 : w67.cell? ⟨gb158, 0, none⟩ = some (.int .i64 a1_0) := (blk_cell BK158.out 0).trans rfl; have hcz69_1 : w67.cell? ⟨gb158, 1, none⟩ = some (.int .i64 a1_1) := (blk_cell BK158.out 1).trans rfl; have hfz69_0 := blk_frozen BK158.out 0; have hfz69_1 := blk_frozen BK158.out 1) | ((with_reducible refine gate_callee (f := 27) rfl ?_); refine goesL_ (some 38) rfl rfl Try.func27 (by kernel_rfl) rfl #[.agg #[.int .i64 a1_0, .int .i64 a1_1]] rfl lm ?_; (with_reducible refine (spec_obStart.calls kj2 a1_0 a1_1 t164 t165 _ A45.out).mono ?_); rintro e w70 ⟨rfl, hb⟩; refine ⟨_, rfl, ?_⟩; have n0_ := Aside0.mk (blk_below (lb BK157.out) hb); have n1_ := Aside0.mk (blk_below (lb BK158.out) hb); have n2_ := Aside0.mk (blk_below (lb BK159.out) hb); have n3_ := Aside0.mk (below_step (lB HB.out) hb); clear BK157 BK158 BK159 HB; have BK157 := n0_; have BK158 := n1_; have BK159 := n2_; have HB := n3_; clear n0_ n1_ n2_ n3_; (try clear hb); (try clear hb2); (try clear hk); (try clear hi)) | ((with_reducible refine gate_callee (f := 28) rfl ?_); refine goesL_ (some 42) rfl rfl Try.func28 (by kernel_rfl) rfl #[.string t162] rfl lm ?_; (with_reducible refine (spec_trCarets.calls t162 t166 _ A46.out).mono ?_); rintro e w' ⟨rfl, ⟨nd, rfl⟩⟩; refine ⟨_, rfl, ?_⟩; (try (rw [drewN_self w70]; generalize hq_ : World.drewN w70 _ = w70; have n0_ : Aside0 (w70.heap[gb157]? = some (.cells #[.int .i64 a0_0, .int .i64 a0_1] 25 (0, 0))) := ⟨by rw [← hq_]; exact (lb BK157.out)⟩; have n1_ : Aside0 (w70.heap[gb158]? = some (.cells #[.int .i64 a1_0, .int .i64 a1_1] 25 (0, 0))) := ⟨by rw [← hq_]; exact (lb BK158.out)⟩; have n2_ : Aside0 (w70.heap[gb159]? = some (.cells #[.string (⟨#[]⟩ : ByteArray), .string (⟨#[]⟩ : ByteArray)] 29 (0, 0))) := ⟨by rw [← hq_]; exact (lb BK159.out)⟩; have n3_ : Aside0 (Below w.heap.size w w70) := ⟨by rw [← hq_]; exact (lB HB.out)⟩; clear BK157 BK158 BK159 HB hq_; have BK157 := n0_; have BK158 := n1_; have BK159 := n2_; have HB := n3_; clear n0_ n1_ n2_ n3_))) | ((with_reducible refine gate_callee (f := 28) rfl ?_); refine goesL_ (some 47) rfl rfl Try.func28 (by kernel_rfl) rfl #[.string t164] rfl lm ?_; (with_reducible refine (spec_trCarets.calls t164 t167 _ A47.out).mono ?_); rintro e w' ⟨rfl, ⟨nd, rfl⟩⟩; refine ⟨_, rfl, ?_⟩; (try (rw [drewN_self w70]; generalize hq_ : World.drewN w70 _ = w70; have n0_ : Aside0 (w70.heap[gb157]? = some (.cells #[.int .i64 a0_0, .int .i64 a0_1] 25 (0, 0))) := ⟨by rw [← hq_]; exact (lb BK157.out)⟩; have n1_ : Aside0 (w70.heap[gb158]? = some (.cells #[.int .i64 a1_0, .int .i64 a1_1] 25 (0, 0))) := ⟨by rw [← hq_]; exact (lb BK158.out)⟩; have n2_ : Aside0 (w70.heap[gb159]? = some (.cells #[.string (⟨#[]⟩ : ByteArray), .string (⟨#[]⟩ : ByteArray)] 29 (0, 0))) := ⟨by rw [← hq_]; exact (lb BK159.out)⟩; have n3_ : Aside0 (Below w.heap.size w w70) := ⟨by rw [← hq_]; exact (lB HB.out)⟩; clear BK157 BK158 BK159 HB hq_; have BK157 := n0_; have BK158 := n1_; have BK159 := n2_; have HB := n3_; clear n0_ n1_ n2_ n3_))) | ((with_reducible refine gate_callee (f := 28) rfl ?_); refine goesL_ (some 53) rfl rfl Try.func28 (by kernel_rfl) rfl #[.string t162] rfl lm ?_; (with_reducible refine (spec_trCarets.calls t162 t168 _ A48.out).mono ?_); rintro e w' ⟨rfl, ⟨nd, rfl⟩⟩; refine ⟨_, rfl, ?_⟩; (try (rw [drewN_self w70]; generalize hq_ : World.drewN w70 _ = w70; have n0_ : Aside0 (w70.heap[gb157]? = some (.cells #[.int .i64 a0_0, .int .i64 a0_1] 25 (0, 0))) := ⟨by rw [← hq_]; exact (lb BK157.out)⟩; have n1_ : Aside0 (w70.heap[gb158]? = some (.cells #[.int .i64 a1_0, .int .i64 a1_1] 25 (0, 0))) := ⟨by rw [← hq_]; exact (lb BK158.out)⟩; have n2_ : Aside0 (w70.heap[gb159]? = some (.cells #[.string (⟨#[]⟩ : ByteArray), .string (⟨#[]⟩ : ByteArray)] 29 (0, 0))) := ⟨by rw [← hq_]; exact (lb BK159.out)⟩; have n3_ : Aside0 (Below w.heap.size w w70) := ⟨by rw [← hq_]; exact (lB HB.out)⟩; clear BK157 BK158 BK159 HB hq_; have BK157 := n0_; have BK158 := n1_; have BK159 := n2_; have HB := n3_; clear n0_ n1_ n2_ n3_))) | ((with_reducible refine gate_callee (f := 31) rfl ?_); refine goesL_ (some 57) rfl rfl Try.func31 (by kernel_rfl) rfl #[.int .i64 0, .int .i64 (wrap64 ((wrap64 ((wrap64 (t167 + 1)) - t165)) - (wrap64 ((wrap64 (t166 + 1)) - t163))))] rfl lm ?_; (with_reducible refine (spec_l1Most.calls 0 (wrap64 ((wrap64 ((wrap64 (t167 + 1)) - t165)) - (wrap64 ((wrap64 (t166 + 1)) - t163)))) t169 _ A49.out).mono ?_); rintro e w' ⟨rfl, ⟨nd, rfl⟩⟩; refine ⟨_, rfl, ?_⟩; (try (rw [drewN_self w70]; generalize hq_ : World.drewN w70 _ = w70; have n0_ : Aside0 (w70.heap[gb157]? = some (.cells #[.int .i64 a0_0, .int .i64 a0_1] 25 (0, 0))) := ⟨by rw [← hq_]; exact (lb BK157.out)⟩; have n1_ : Aside0 (w70.heap[gb158]? = some (.cells #[.int .i64 a1_0, .int .i64 a1_1] 25 (0, 0))) := ⟨by rw [← hq_]; exact (lb BK158.out)⟩; have n2_ : Aside0 (w70.heap[gb159]? = some (.cells #[.string (⟨#[]⟩ : ByteArray), .string (⟨#[]⟩ : ByteArray)] 29 (0, 0))) := ⟨by rw [← hq_]; exact (lb BK159.out)⟩; have n3_ : Aside0 (Below w.heap.size w w70) := ⟨by rw [← hq_]; exact (lB HB.out)⟩; clear BK157 BK158 BK159 HB hq_; have BK157 := n0_; have BK158 := n1_; have BK159 := n2_; have HB := n3_; clear n0_ n1_ n2_ n3_))) | ((with_reducible refine gate_callee (f := 30) rfl ?_); refine goesL_ (some 58) rfl rfl Try.func30 (by kernel_rfl) rfl #[.int .i64 t169] rfl lm ?_; (with_reducible refine (spec_trRight.calls t169 t170 _ A50.out).mono ?_); rintro e w71 ⟨rfl, hb⟩; refine ⟨_, rfl, ?_⟩; have n0_ := Aside0.mk (blk_below (lb BK157.out) hb); have n1_ := Aside0.mk (blk_below (lb BK158.out) hb); have n2_ := Aside0.mk (blk_below (lb BK159.out) hb); have n3_ := Aside0.mk (below_step (lB HB.out) hb); clear BK157 BK158 BK159 HB; have BK157 := n0_; have BK158 := n1_; have BK159 := n2_; have HB := n3_; clear n0_ n1_ n2_ n3_; (try clear hb); (try clear hb2); (try clear hk); (try clear hi)) | ((with_reducible refine gate_callee (f := 29) rfl ?_); refine goesL_ (some 59) rfl rfl Try.func29 (by kernel_rfl) rfl #[.string t162, .int .i64 t168, .string t170] rfl lm ?_; (with_reducible refine (spec_trGraft.calls t162 t168 t170 t171 _ A51.out).mono ?_); rintro e w' ⟨rfl, ⟨nd, rfl⟩⟩; refine ⟨_, rfl, ?_⟩; (try (rw [drewN_self w71]; generalize hq_ : World.drewN w71 _ = w71; have n0_ : Aside0 (w71.heap[gb157]? = some (.cells #[.int .i64 a0_0, .int .i64 a0_1] 25 (0, 0))) := ⟨by rw [← hq_]; exact (lb BK157.out)⟩; have n1_ : Aside0 (w71.heap[gb158]? = some (.cells #[.int .i64 a1_0, .int .i64 a1_1] 25 (0, 0))) := ⟨by rw [← hq_]; exact (lb BK158.out)⟩; have n2_ : Aside0 (w71.heap[gb159]? = some (.cells #[.string (⟨#[]⟩ : ByteArray), .string (⟨#[]⟩ : ByteArray)] 29 (0, 0))) := ⟨by rw [← hq_]; exact (lb BK159.out)⟩; have n3_ : Aside0 (Below w.heap.size w w71) := ⟨by rw [← hq_]; exact (lB HB.out)⟩; clear BK157 BK158 BK159 HB hq_; have BK157 := n0_; have BK158 := n1_; have BK159 := n2_; have HB := n3_; clear n0_ n1_ n2_ n3_))) | ((with_reducible refine gate_callee (f := 28) rfl ?_); refine goesL_ (some 62) rfl rfl Try.func28 (by kernel_rfl) rfl #[.string t164] rfl lm ?_; (with_reducible refine (spec_trCarets.calls t164 t172 _ A52.out).mono ?_); rintro e w' ⟨rfl, ⟨nd, rfl⟩⟩; refine ⟨_, rfl, ?_⟩; (try (rw [drewN_self w71]; generalize hq_ : World.drewN w71 _ = w71; have n0_ : Aside0 (w71.heap[gb157]? = some (.cells #[.int .i64 a0_0, .int .i64 a0_1] 25 (0, 0))) := ⟨by rw [← hq_]; exact (lb BK157.out)⟩; have n1_ : Aside0 (w71.heap[gb158]? = some (.cells #[.int .i64 a1_0, .int .i64 a1_1] 25 (0, 0))) := ⟨by rw [← hq_]; exact (lb BK158.out)⟩; have n2_ : Aside0 (w71.heap[gb159]? = some (.cells #[.string (⟨#[]⟩ : ByteArray), .string (⟨#[]⟩ : ByteArray)] 29 (0, 0))) := ⟨by rw [← hq_]; exact (lb BK159.out)⟩; have n3_ : Aside0 (Below w.heap.size w w71) := ⟨by rw [← hq_]; exact (lB HB.out)⟩; clear BK157 BK158 BK159 HB hq_; have BK157 := n0_; have BK158 := n1_; have BK159 := n2_; have HB := n3_; clear n0_ n1_ n2_ n3_))) | ((with_reducible refine gate_callee (f := 31) rfl ?_); refine goesL_ (some 66) rfl rfl Try.func31 (by kernel_rfl) rfl #[.int .i64 0, .int .i64 (wrap64 ((wrap64 ((wrap64 (t166 + 1)) - t163)) - (wrap64 ((wrap64 (t167 + 1)) - t165))))] rfl lm ?_; (with_reducible refine (spec_l1Most.calls 0 (wrap64 ((wrap64 ((wrap64 (t166 + 1)) - t163)) - (wrap64 ((wrap64 (t167 + 1)) - t165)))) t173 _ A53.out).mono ?_); rintro e w' ⟨rfl, ⟨nd, rfl⟩⟩; refine ⟨_, rfl, ?_⟩; (try (rw [drewN_self w71]; generalize hq_ : World.drewN w71 _ = w71; have n0_ : Aside0 (w71.heap[gb157]? = some (.cells #[.int .i64 a0_0, .int .i64 a0_1] 25 (0, 0))) := ⟨by rw [← hq_]; exact (lb BK157.out)⟩; have n1_ : Aside0 (w71.heap[gb158]? = some (.cells #[.int .i64 a1_0, .int .i64 a1_1] 25 (0, 0))) := ⟨by rw [← hq_]; exact (lb BK158.out)⟩; have n2_ : Aside0 (w71.heap[gb159]? = some (.cells #[.string (⟨#[]⟩ : ByteArray), .string (⟨#[]⟩ : ByteArray)] 29 (0, 0))) := ⟨by rw [← hq_]; exact (lb BK159.out)⟩; have n3_ : Aside0 (Below w.heap.size w w71) := ⟨by rw [← hq_]; exact (lB HB.out)⟩; clear BK157 BK158 BK159 HB hq_; have BK157 := n0_; have BK158 := n1_; have BK159 := n2_; have HB := n3_; clear n0_ n1_ n2_ n3_))) | ((with_reducible refine gate_callee (f := 30) rfl ?_); refine goesL_ (some 67) rfl rfl Try.func30 (by kernel_rfl) rfl #[.int .i64 t173] rfl lm ?_; (with_reducible refine (spec_trRight.calls t173 t174 _ A54.out).mono ?_); rintro e w72 ⟨rfl, hb⟩; refine ⟨_, rfl, ?_⟩; have n0_ := Aside0.mk (blk_below (lb BK157.out) hb); have n1_ := Aside0.mk (blk_below (lb BK158.out) hb); have n2_ := Aside0.mk (blk_below (lb BK159.out) hb); have n3_ := Aside0.mk (below_step (lB HB.out) hb); clear BK157 BK158 BK159 HB; have BK157 := n0_; have BK158 := n1_; have BK159 := n2_; have HB := n3_; clear n0_ n1_ n2_ n3_; (try clear hb); (try clear hb2); (try clear hk); (try clear hi)) | ((with_reducible refine gate_callee (f := 29) rfl ?_); refine goesL_ (some 68) rfl rfl Try.func29 (by kernel_rfl) rfl #[.string t164, .int .i64 t172, .string t174] rfl lm ?_; (with_reducible refine (spec_trGraft.calls t164 t172 t174 t175 _ A55.out).mono ?_); rintro e w' ⟨rfl, ⟨nd, rfl⟩⟩; refine ⟨_, rfl, ?_⟩; (try (rw [drewN_self w72]; generalize hq_ : World.drewN w72 _ = w72; have n0_ : Aside0 (w72.heap[gb157]? = some (.cells #[.int .i64 a0_0, .int .i64 a0_1] 25 (0, 0))) := ⟨by rw [← hq_]; exact (lb BK157.out)⟩; have n1_ : Aside0 (w72.heap[gb158]? = some (.cells #[.int .i64 a1_0, .int .i64 a1_1] 25 (0, 0))) := ⟨by rw [← hq_]; exact (lb BK158.out)⟩; have n2_ : Aside0 (w72.heap[gb159]? = some (.cells #[.string (⟨#[]⟩ : ByteArray), .string (⟨#[]⟩ : ByteArray)] 29 (0, 0))) := ⟨by rw [← hq_]; exact (lb BK159.out)⟩; have n3_ : Aside0 (Below w.heap.size w w72) := ⟨by rw [← hq_]; exact (lB HB.out)⟩; clear BK157 BK158 BK159 HB hq_; have BK157 := n0_; have BK158 := n1_; have BK159 := n2_; have HB := n3_; clear n0_ n1_ n2_ n3_))) | ((with_reducible refine gate_callee (f := 31) rfl ?_); refine goesL_ (some 73) rfl rfl Try.func31 (by kernel_rfl) rfl #[.int .i64 0, .int .i64 (wrap64 (t165 - t163))] rfl lm ?_; (with_reducible refine (spec_l1Most.calls 0 (wrap64 (t165 - t163)) t176 _ A56.out).mono ?_); rintro e w' ⟨rfl, ⟨nd, rfl⟩⟩; refine ⟨_, rfl, ?_⟩; (try (rw [drewN_self w72]; generalize hq_ : World.drewN w72 _ = w72; have n0_ : Aside0 (w72.heap[gb157]? = some (.cells #[.int .i64 a0_0, .int .i64 a0_1] 25 (0, 0))) := ⟨by rw [← hq_]; exact (lb BK157.out)⟩; have n1_ : Aside0 (w72.heap[gb158]? = some (.cells #[.int .i64 a1_0, .int .i64 a1_1] 25 (0, 0))) := ⟨by rw [← hq_]; exact (lb BK158.out)⟩; have n2_ : Aside0 (w72.heap[gb159]? = some (.cells #[.string (⟨#[]⟩ : ByteArray), .string (⟨#[]⟩ : ByteArray)] 29 (0, 0))) := ⟨by rw [← hq_]; exact (lb BK159.out)⟩; have n3_ : Aside0 (Below w.heap.size w w72) := ⟨by rw [← hq_]; exact (lB HB.out)⟩; clear BK157 BK158 BK159 HB hq_; have BK157 := n0_; have BK158 := n1_; have BK159 := n2_; have HB := n3_; clear n0_ n1_ n2_ n3_))) | ((with_reducible refine gate_callee (f := 30) rfl ?_); refine goesL_ (some 74) rfl rfl Try.func30 (by kernel_rfl) rfl #[.int .i64 t176] rfl lm ?_; (with_reducible refine (spec_trRight.calls t176 t177 _ A57.out).mono ?_); rintro e w73 ⟨rfl, hb⟩; refine ⟨_, rfl, ?_⟩; have n0_ := Aside0.mk (blk_below (lb BK157.out) hb); have n1_ := Aside0.mk (blk_below (lb BK158.out) hb); have n2_ := Aside0.mk (blk_below (lb BK159.out) hb); have n3_ := Aside0.mk (below_step (lB HB.out) hb); clear BK157 BK158 BK159 HB; have BK157 := n0_; have BK158 := n1_; have BK159 := n2_; have HB := n3_; clear n0_ n1_ n2_ n3_; (try clear hb); (try clear hb2); (try clear hk); (try clear hi)) | ((with_reducible refine gate_callee (f := 29) rfl ?_); refine goesL_ (some 75) rfl rfl Try.func29 (by kernel_rfl) rfl #[.string t171, .int .i64 0, .string t177] rfl lm ?_; (with_reducible refine (spec_trGraft.calls t171 0 t177 t178 _ A58.out).mono ?_); rintro e w' ⟨rfl, ⟨nd, rfl⟩⟩; refine ⟨_, rfl, ?_⟩; (try (rw [drewN_self w73]; generalize hq_ : World.drewN w73 _ = w73; have n0_ : Aside0 (w73.heap[gb157]? = some (.cells #[.int .i64 a0_0, .int .i64 a0_1] 25 (0, 0))) := ⟨by rw [← hq_]; exact (lb BK157.out)⟩; have n1_ : Aside0 (w73.heap[gb158]? = some (.cells #[.int .i64 a1_0, .int .i64 a1_1] 25 (0, 0))) := ⟨by rw [← hq_]; exact (lb BK158.out)⟩; have n2_ : Aside0 (w73.heap[gb159]? = some (.cells #[.string (⟨#[]⟩ : ByteArray), .string (⟨#[]⟩ : ByteArray)] 29 (0, 0))) := ⟨by rw [← hq_]; exact (lb BK159.out)⟩; have n3_ : Aside0 (Below w.heap.size w w73) := ⟨by rw [← hq_]; exact (lB HB.out)⟩; clear BK157 BK158 BK159 HB hq_; have BK157 := n0_; have BK158 := n1_; have BK159 := n2_; have HB := n3_; clear n0_ n1_ n2_ n3_))) | ((with_reducible refine gate_callee (f := 31) rfl ?_); refine goesL_ (some 80) rfl rfl Try.func31 (by kernel_rfl) rfl #[.int .i64 0, .int .i64 (wrap64 (t163 - t165))] rfl lm ?_; (with_reducible refine (spec_l1Most.calls 0 (wrap64 (t163 - t165)) t179 _ A59.out).mono ?_); rintro e w' ⟨rfl, ⟨nd, rfl⟩⟩; refine ⟨_, rfl, ?_⟩; (try (rw [drewN_self w73]; generalize hq_ : World.drewN w73 _ = w73; have n0_ : Aside0 (w73.heap[gb157]? = some (.cells #[.int .i64 a0_0, .int .i64 a0_1] 25 (0, 0))) := ⟨by rw [← hq_]; exact (lb BK157.out)⟩; have n1_ : Aside0 (w73.heap[gb158]? = some (.cells #[.int .i64 a1_0, .int .i64 a1_1] 25 (0, 0))) := ⟨by rw [← hq_]; exact (lb BK158.out)⟩; have n2_ : Aside0 (w73.heap[gb159]? = some (.cells #[.string (⟨#[]⟩ : ByteArray), .string (⟨#[]⟩ : ByteArray)] 29 (0, 0))) := ⟨by rw [← hq_]; exact (lb BK159.out)⟩; have n3_ : Aside0 (Below w.heap.size w w73) := ⟨by rw [← hq_]; exact (lB HB.out)⟩; clear BK157 BK158 BK159 HB hq_; have BK157 := n0_; have BK158 := n1_; have BK159 := n2_; have HB := n3_; clear n0_ n1_ n2_ n3_))) | ((with_reducible refine gate_callee (f := 30) rfl ?_); refine goesL_ (some 81) rfl rfl Try.func30 (by kernel_rfl) rfl #[.int .i64 t179] rfl lm ?_; (with_reducible refine (spec_trRight.calls t179 t180 _ A60.out).mono ?_); rintro e w74 ⟨rfl, hb⟩; refine ⟨_, rfl, ?_⟩; have n0_ := Aside0.mk (blk_below (lb BK157.out) hb); have n1_ := Aside0.mk (blk_below (lb BK158.out) hb); have n2_ := Aside0.mk (blk_below (lb BK159.out) hb); have n3_ := Aside0.mk (below_step (lB HB.out) hb); clear BK157 BK158 BK159 HB; have BK157 := n0_; have BK158 := n1_; have BK159 := n2_; have HB := n3_; clear n0_ n1_ n2_ n3_; (try clear hb); (try clear hb2); (try clear hk); (try clear hi)) | ((with_reducible refine gate_callee (f := 29) rfl ?_); refine goesL_ (some 82) rfl rfl Try.func29 (by kernel_rfl) rfl #[.string t175, .int .i64 0, .string t180] rfl lm ?_; (with_reducible refine (spec_trGraft.calls t175 0 t180 t181 _ A61.out).mono ?_); rintro e w' ⟨rfl, ⟨nd, rfl⟩⟩; refine ⟨_, rfl, ?_⟩; (try (rw [drewN_self w74]; generalize hq_ : World.drewN w74 _ = w74; have n0_ : Aside0 (w74.heap[gb157]? = some (.cells #[.int .i64 a0_0, .int .i64 a0_1] 25 (0, 0))) := ⟨by rw [← hq_]; exact (lb BK157.out)⟩; have n1_ : Aside0 (w74.heap[gb158]? = some (.cells #[.int .i64 a1_0, .int .i64 a1_1] 25 (0, 0))) := ⟨by rw [← hq_]; exact (lb BK158.out)⟩; have n2_ : Aside0 (w74.heap[gb159]? = some (.cells #[.string (⟨#[]⟩ : ByteArray), .string (⟨#[]⟩ : ByteArray)] 29 (0, 0))) := ⟨by rw [← hq_]; exact (lb BK159.out)⟩; have n3_ : Aside0 (Below w.heap.size w w74) := ⟨by rw [← hq_]; exact (lB HB.out)⟩; clear BK157 BK158 BK159 HB hq_; have BK157 := n0_; have BK158 := n1_; have BK159 := n2_; have HB := n3_; clear n0_ n1_ n2_ n3_))) | ((with_reducible refine gate_callee (f := 33) rfl ?_); refine goesL_ (some 86) rfl rfl Try.func33 (by kernel_rfl) rfl #[.agg #[.string t178, .string t181], .slice none 0 0] rfl lm ?_; (refine (spec_prReduce.calls t178 t181 _ _ ([] : List Int) t182 t183 _ ?side1 ?side2 A62.out).mono ?_); (case side1 => exact Kd.C_nil _ _); (case side2 => exact Nat.le_refl _); rintro e w75 ⟨rfl, hb⟩; refine ⟨_, rfl, ?_⟩; have n0_ := Aside0.mk (blk_below (lb BK157.out) hb); have n1_ := Aside0.mk (blk_below (lb BK158.out) hb); have n2_ := Aside0.mk (blk_below (lb BK159.out) hb); have n3_ := Aside0.mk (below_step (lB HB.out) hb); clear BK157 BK158 BK159 HB; have BK157 := n0_; have BK158 := n1_; have BK159 := n2_; have HB := n3_; clear n0_ n1_ n2_ n3_; (try clear hb); (try clear hb2); (try clear hk); (try clear hi)) | ((with_reducible refine gate_callee (f := 32) rfl ?_); refine goesL_ (some 87) rfl rfl Try.func32 (by kernel_rfl) rfl #[.agg #[.string t182, .string t183]] rfl lm ?_; (with_reducible refine (spec_prIf.calls t182 t183 t184 t185 t186 _ A63.out).mono ?_); rintro e w76 ⟨rfl, hb⟩; refine ⟨_, rfl, ?_⟩; have n0_ := Aside0.mk (blk_below (lb BK157.out) hb); have n1_ := Aside0.mk (blk_below (lb BK158.out) hb); have n2_ := Aside0.mk (blk_below (lb BK159.out) hb); have n3_ := Aside0.mk (below_step (lB HB.out) hb); clear BK157 BK158 BK159 HB; have BK157 := n0_; have BK158 := n1_; have BK159 := n2_; have HB := n3_; clear n0_ n1_ n2_ n3_; (try clear hb); (try clear hb2); (try clear hk); (try clear hi); have hcz77_0 : w76.cell? ⟨gb159, 0, none⟩ = some (.string (⟨#[]⟩ : ByteArray)) := (blk_cell BK159.out 0).trans rfl; have hcz77_1 : w76.cell? ⟨gb159, 1, none⟩ = some (.string (⟨#[]⟩ : ByteArray)) := (blk_cell BK159.out 1).trans rfl; have hfz77_0 := blk_frozen BK159.out 0; have hfz77_1 := blk_frozen BK159.out 1))
   refine bodyPost_ret (results_ct rfl _ _ gb159 29 #[.string t184, .string t185] (0, 0) _ rfl (by (with_reducible repeat (first | refine blk_drewN ?_ _ | refine blk_drew ?_ | refine blk_alloc ?_ _)); refine blk_put (cs := #[.string t184, .string (⟨#[]⟩ : ByteArray)]) ?_ 1 _ rfl; (with_reducible repeat (first | refine blk_drewN ?_ _ | refine blk_drew ?_ | refine blk_alloc ?_ _)); refine blk_put (cs := #[.string (⟨#[]⟩ : ByteArray), .string (⟨#[]⟩ : ByteArray)]) ?_ 0 _ rfl; exact lb BK159.out) Try.underlying29 rfl (by kernel_rfl)) rfl ?_
   exact ⟨lx, by exact lB HB.out⟩
end Go.Proofs.Ytgnepbogadfinaa.PA
