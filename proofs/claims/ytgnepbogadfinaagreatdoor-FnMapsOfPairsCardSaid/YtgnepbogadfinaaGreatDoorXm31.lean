import Derived.Test.YtgnepbogadfinaaGreatDoorXm18
import Derived.Test.YtgnepbogadfinaaGreatDoorXm19
import Derived.Test.YtgnepbogadfinaaGreatDoorXm30
/- A part of the proof: lemmas that later parts use. -/
set_option linter.unusedVariables false
set_option linter.unusedSimpArgs false
namespace Go.Proofs.YtgnepbogadfinaaGreatDoor.PA
open Go.RowKit Go.Proofs.YtgnepbogadfinaaGreatDoorW.PrintWords
def impl_IsFraction.f (a0_0 : Int) (a0_1 : Int) : Option (Bool) := some (N.goodB a0_0 a0_1)
theorem impl_IsFraction.calls (a0_0 : Int) (a0_1 : Int) (r : Bool) (w : World) (h : impl_IsFraction.f a0_0 a0_1 = some r) :
    Calls Tryz.prog 22 #[.agg #[.int .i64 a0_0, .int .i64 a0_1]] w fun e w' => e = .returned (.bool r) ∧ Below w.heap.size w w' := by
  obtain rfl := Option.some.inj h
  exact N.isFraction_calls a0_0 a0_1 w
def frT (x : Option (Nat × Nat)) : Int × Int × Bool := match x with
  | some x => ((x.1 : Int), (x.2 : Int), true)
  | none => (0, 0, false)
def impl_toldAt.f (a0 : Int) : Option (Int × Int × Bool) := if 0 ≤ a0 ∧ a0 ≤ 1099511627776 then some (frT (N.frF a0.toNat)) else none
theorem impl_toldAt.calls (a0 : Int) (r1 : Int) (r2 : Int) (r3 : Bool) (w : World) (h : impl_toldAt.f a0 = some (r1, r2, r3)) :
    Calls Tryz.prog 23 #[.int .i64 a0] w fun e w' => e = .returned (.tuple #[.agg #[.int .i64 r1, .int .i64 r2], .bool r3]) ∧ Below w.heap.size w w' := by
  unfold impl_toldAt.f at h
  split at h
  · rename_i hg
    obtain ⟨n, rfl⟩ : ∃ n : Nat, a0 = n := ⟨a0.toNat, by omega⟩
    replace h := Option.some.inj h
    rw [show ((n : Int)).toNat = n from rfl] at h
    refine (N.toldAt_calls n (by omega) w).mono ?_
    rintro e w' ⟨rfl, hx⟩
    refine ⟨?_, hx⟩
    cases hF : N.frF n with
    | none =>
      rw [hF] at h
      simp only [frT, Prod.mk.injEq] at h
      obtain ⟨rfl, rfl, rfl⟩ := h
      rfl
    | some x =>
      rw [hF] at h
      simp only [frT, Prod.mk.injEq] at h
      obtain ⟨rfl, rfl, rfl⟩ := h
      rfl
  · cases h
def impl_Fraction_place.f (a0_0 : Int) (a0_1 : Int) : Option (Int) := if N.goodB a0_0 a0_1 = true then some (plN a0_0 a0_1 : Nat) else none
theorem impl_Fraction_place.calls (a0_0 : Int) (a0_1 : Int) (r : Int) (w : World) (h : impl_Fraction_place.f a0_0 a0_1 = some r) :
    Calls Tryz.prog 25 #[.agg #[.int .i64 a0_0, .int .i64 a0_1]] w fun e w' => e = .returned (.int .i64 r) ∧ Below w.heap.size w w' := by
  unfold impl_Fraction_place.f at h
  split at h
  · rename_i hg
    obtain rfl := Option.some.inj h
    obtain ⟨m, k, rfl, rfl, hk, hm, ho⟩ := N.goodB_true hg
    rw [plN_eq m k (by omega)]
    exact N.place_calls m (2 ^ k) (N.part k) (N.part_mul (by omega)) hm (Nat.two_pow_pos k) w
  · cases h
def impl_isAddress.f (a0 : ByteArray) : Option (Bool) := some (N.adB a0.toList)
theorem impl_isAddress.calls (a0 : ByteArray) (r : Bool) (w : World) (h : impl_isAddress.f a0 = some r) :
    Calls Tryz.prog 40 #[.string a0] w fun e w' => e = .returned (.bool r) ∧ Below w.heap.size w w' := by
  obtain rfl := Option.some.inj h
  exact N.isAddress_calls a0 w
def impl_placeOf.f (a0 : ByteArray) : Option (Int) := if a0.size ≤ 40 then some (N.plA a0.toList : Nat) else none
theorem impl_placeOf.calls (a0 : ByteArray) (r : Int) (w : World) (h : impl_placeOf.f a0 = some r) :
    Calls Tryz.prog 44 #[.string a0] w fun e w' => e = .returned (.int .i64 r) ∧ Below w.heap.size w w' := by
  unfold impl_placeOf.f at h
  split at h
  · rename_i hg
    obtain rfl := Option.some.inj h
    have hz : a0.toList.length = a0.size := by rw [ByteArray.toList_eq]; rfl
    have := N.placeOf_calls a0.toList (by omega) w
    rw [← N.S_of a0] at this
    refine this.mono ?_
    rintro e w' ⟨rfl, rfl⟩
    exact ⟨rfl, Below.refl _ _⟩
  · cases h
def stT (x : Option (List UInt8)) : ByteArray × Bool := match x with
  | some x => (N.S x, true)
  | none => (⟨#[]⟩, false)
theorem stT_V (x : Option (List UInt8)) : N.StV x = .tuple #[.string (stT x).1, .bool (stT x).2] := by cases x <;> rfl
def impl_ImageOfAddress.f (a0_0 : ByteArray) (a0_1 : ByteArray) (a1 : ByteArray) : Option (ByteArray × Bool) := some (match N.pairT a0_0 a0_1 with
  | some p => if N.adB a1.toList = true then stT (N.imgL (N.addrs p.1 []) (N.addrs p.2 []) a1.toList) else stT none
  | none => stT none)
theorem impl_ImageOfAddress.calls (a0_0 : ByteArray) (a0_1 : ByteArray) (a1 : ByteArray) (r1 : ByteArray) (r2 : Bool) (w : World) (h : impl_ImageOfAddress.f a0_0 a0_1 a1 = some (r1, r2)) :
    Calls Tryz.prog 13 #[.agg #[.string a0_0, .string a0_1], .string a1] w fun e w' => e = .returned (.tuple #[.string r1, .bool r2]) ∧ Below w.heap.size w w' := by
  unfold impl_ImageOfAddress.f at h
  rcases N.pairT_cases a0_0 a0_1 with ⟨A, B, rfl, rfl, h1, h2, e⟩ | ⟨g, e⟩
  · rw [e] at h
    replace h := Option.some.inj h
    simp only at h
    split at h
    · rename_i hg
      have := N.ImageOf_yes A B h1 h2 a1 hg w
      rw [stT_V, h] at this
      exact this
    · rename_i hg
      have := N.ImageOf_no2 A B h1 h2 a1 (Bool.eq_false_iff.2 hg) w
      rw [stT_V, h] at this
      exact this
  · rw [e] at h
    replace h : stT none = (r1, r2) := Option.some.inj h
    have := N.ImageOf_no1 a0_0 a0_1 a1 g w
    rw [stT_V, h] at this
    exact this
def spec_ValueOf.f := impl_ValueOf.f
theorem spec_ValueOf.calls (a0_0 : ByteArray) (a0_1 : ByteArray) (a1_0 : Int) (a1_1 : Int) (r1 : Int) (r2 : Int) (r3 : Bool) (w : World) (h : spec_ValueOf.f a0_0 a0_1 a1_0 a1_1 = some (r1, r2, r3)) :
    Calls Tryz.prog 7 #[.agg #[.string a0_0, .string a0_1], .agg #[.int .i64 a1_0, .int .i64 a1_1]] w fun e w' => e = .returned (.tuple #[.agg #[.int .i64 r1, .int .i64 r2], .bool r3]) ∧ Below w.heap.size w w' := by
  unfold spec_ValueOf.f impl_ValueOf.f at h
  rcases N.pairT_cases a0_0 a0_1 with ⟨A, B, rfl, rfl, h1, h2, e⟩ | ⟨g, e⟩
  · rw [e] at h
    replace h := Option.some.inj h
    simp only at h
    split at h
    · rename_i hg
      obtain ⟨m, k, rfl, rfl, hk, hm, ho⟩ := N.goodB_true hg
      rw [plN_eq m k (by omega)] at h
      refine (N.specVal_yes A B h1 h2 m k hk hm hg w).mono ?_
      rintro e w' ⟨rfl, hx⟩
      refine ⟨?_, hx⟩
      cases hF : N.frF (N.vaF A B (m * N.part k)) with
      | none =>
        rw [hF] at h
        simp only [Prod.mk.injEq] at h
        obtain ⟨rfl, rfl, rfl⟩ := h
        rfl
      | some x =>
        rw [hF] at h
        simp only [Prod.mk.injEq] at h
        obtain ⟨rfl, rfl, rfl⟩ := h
        rfl
    · rename_i hg
      simp only [Prod.mk.injEq] at h
      obtain ⟨rfl, rfl, rfl⟩ := h
      exact N.specVal_noFrac A B h1 h2 _ _ (by simpa using hg) w
  · rw [e] at h
    simp only [Option.some.injEq, Prod.mk.injEq] at h
    obtain ⟨rfl, rfl, rfl⟩ := h
    exact N.specVal_noPair _ _ _ _ g w
end Go.Proofs.YtgnepbogadfinaaGreatDoor.PA
namespace Go.Proofs.YtgnepbogadfinaaGreatDoor.PA
open Go.RowKit Go.Proofs.YtgnepbogadfinaaGreatDoorW.PrintWords Go.Proofs.YtgnepbogadfinaaGreatDoorW.PrintLast Go.Proofs.YtgnepbogadfinaaGreatDoorW.PrintMore
attribute [local go_sem] max2_int min2_int max_two min_two max_three min_three max_four min_four
mutual
def spec_ImageOfAddress.j0 : Nat → ByteArray → Bool → ByteArray → ByteArray → Option (ByteArray × Bool)
  | 0, _, _, _, _ => none
  | k + 1, x1, x17, x276000, x276001 => if x17 = true then (some ((⟨#[]⟩ : ByteArray), false)) else ((spec_trAddresses.f x276001 (⟨#[]⟩ : ByteArray)).bind fun t278 => ((spec_trAddresses.f x276000 (⟨#[]⟩ : ByteArray)).bind fun t281 => (spec_ImageOfAddress.l0 k x1 t278 t281 (t281.length : Int) 0)))
def spec_ImageOfAddress.l0 : Nat → ByteArray → List ByteArray → List ByteArray → Int → Int → Option (ByteArray × Bool)
  | 0, _, _, _, _, _ => none
  | k + 1, x1, x6, x23, x24, x25 => if x25 < x24 then (if 0 ≤ x25 then (if x25 < (x23.length : Int) then (if ((rdOf ByteArray.empty x23 x25).size : Int) ≤ (x1.size : Int) then (if 0 ≤ ((rdOf ByteArray.empty x23 x25).size : Int) then (spec_ImageOfAddress.j2 k x1 x6 x25 (rdOf ByteArray.empty x23 x25) x23 x24 x25 ((x1.extract 0 (((rdOf ByteArray.empty x23 x25).size : Int) : Int).toNat).toList == (rdOf ByteArray.empty x23 x25).toList)) else (none)) else (spec_ImageOfAddress.j2 k x1 x6 x25 (rdOf ByteArray.empty x23 x25) x23 x24 x25 false)) else (none)) else (none)) else (some ((⟨#[]⟩ : ByteArray), false))
def spec_ImageOfAddress.j2 : Nat → ByteArray → List ByteArray → Int → ByteArray → List ByteArray → Int → Int → Bool → Option (ByteArray × Bool)
  | 0, _, _, _, _, _, _, _, _ => none
  | k + 1, x1, x6, x7, x8, x23, x24, x25, x42 => if x42 = true then (if 0 ≤ x7 then (if x7 < (x6.length : Int) then (if 0 ≤ (x8.size : Int) then (if (x8.size : Int) ≤ (x1.size : Int) then (if (rdOf ByteArray.empty x6 x7).size + (x1.extract ((x8.size : Int) : Int).toNat x1.size).size ≤ 9223372036854775807 then (if (((rdOf ByteArray.empty x6 x7) ++ (x1.extract ((x8.size : Int) : Int).toNat x1.size)).size : Int) > 10 then (some ((⟨#[]⟩ : ByteArray), false)) else (some ((rdOf ByteArray.empty x6 x7) ++ (x1.extract ((x8.size : Int) : Int).toNat x1.size), true))) else (none)) else (none)) else (none)) else (none)) else (none)) else (spec_ImageOfAddress.l0 k x1 x6 x23 x24 (wrap64 (x25 + 1)))
end
def spec_ImageOfAddress.f (k : Nat) (a0_0 : ByteArray) (a0_1 : ByteArray) (a1 : ByteArray) : Option (ByteArray × Bool) := (spec_prGood.f a0_0 a0_1).bind fun t276 => (if t276 = true then ((spec_mpBits.f k a1).bind fun t277 => (spec_ImageOfAddress.j0 k a1 (!t277) a0_0 a0_1)) else (spec_ImageOfAddress.j0 k a1 true a0_0 a0_1))
set_option maxHeartbeats 8000000 in
set_option maxRecDepth 100000 in
theorem spec_ImageOfAddress.calls (k : Nat) (a0_0 : ByteArray) (a0_1 : ByteArray) (a1 : ByteArray) (r1 : ByteArray) (r2 : Bool) (w : World) (h : spec_ImageOfAddress.f k a0_0 a0_1 a1 = some (r1, r2)) :
    Calls Tryz.prog 14 #[.agg #[.string a0_0, .string a0_1], .string a1] w fun e w' => e = .returned (.tuple #[.string r1, .bool r2]) ∧ Below w.heap.size w w' := by
  have hu25 := Tryz.underlying25
  have HB := Aside0.mk (Below.refl w.heap.size w)
  have H : ((spec_prGood.f a0_0 a0_1).bind fun t276 => (if t276 = true then ((spec_mpBits.f k a1).bind fun t277 => (spec_ImageOfAddress.j0 k a1 (!t277) a0_0 a0_1)) else (spec_ImageOfAddress.j0 k a1 true a0_0 a0_1))) = some (r1, r2) := h
  clear h
  have HC3 := Aside0.mk H
  clear H
  go_enter Tryz.func14, Tryz.ntmps14
  go_upto_region 1 with (first | ((with_reducible refine gate_dst (N := 2) rfl ?_); (try (refine gate_guard (by rfl) ?_; dsimp only)); refine box_event ?hg (N := 2) ?hd (cs := #[.string a0_0, .string a0_1]) (t := 25) ?hr ?_; (case hd => rfl); (case hg => rfl); (case hr => exact lr); intro gb275 hg w4 hbox hb; have n0_ := Aside0.mk (below_step (lB HB.out) hb); have n1_ := Aside0.mk (hbox); have n2_ := gw hg (lB HB.out); have n3_ := gw hg (lB HB.out); clear HB; have HB := n0_; have BK275 := n1_; have GW275 := n2_; have GE275 := n3_; clear n0_ n1_ n2_ n3_; clear hb hbox hg))
  repeat (go_quiet (first | ((with_reducible refine gate_dst (N := 2) rfl ?_); (try (refine gate_guard (by rfl) ?_; dsimp only)); refine box_event ?hg (N := 2) ?hd (cs := #[.string a0_0, .string a0_1]) (t := 25) ?hr ?_; (case hd => rfl); (case hg => rfl); (case hr => exact lr); intro gb275 hg w4 hbox hb; have n0_ := Aside0.mk (below_step (lB HB.out) hb); have n1_ := Aside0.mk (hbox); have n2_ := gw hg (lB HB.out); have n3_ := gw hg (lB HB.out); clear HB; have HB := n0_; have BK275 := n1_; have GW275 := n2_; have GE275 := n3_; clear n0_ n1_ n2_ n3_; clear hb hbox hg)); go_upto_region 1 with (first | ((with_reducible refine gate_dst (N := 2) rfl ?_); (try (refine gate_guard (by rfl) ?_; dsimp only)); refine box_event ?hg (N := 2) ?hd (cs := #[.string a0_0, .string a0_1]) (t := 25) ?hr ?_; (case hd => rfl); (case hg => rfl); (case hr => exact lr); intro gb275 hg w4 hbox hb; have n0_ := Aside0.mk (below_step (lB HB.out) hb); have n1_ := Aside0.mk (hbox); have n2_ := gw hg (lB HB.out); have n3_ := gw hg (lB HB.out); clear HB; have HB := n0_; have BK275 := n1_; have GW275 := n2_; have GE275 := n3_; clear n0_ n1_ n2_ n3_; clear hb hbox hg)))
  (try simp only [Act.put, List.setIfInBounds_toArray, List.set_cons_zero, List.set_cons_succ])
  go_cut [17] (fun v17 wc => ∃ (kq : Nat) (x17_2 : Bool), v17 = .bool x17_2 ∧ Aside0 (spec_ImageOfAddress.j0 kq a1 x17_2 a0_0 a0_1 = some (r1, r2)) ∧ Aside0 (kq ≤ k) ∧ Aside0 (wc.heap[gb275]? = some (.cells #[.string a0_0, .string a0_1] 25 (0, 0))) ∧ Aside0 (Below w.heap.size w wc))
  case first =>
   have H := HC3.out
   clear HC3
   replace H := Option.bind_eq_some_iff.mp H
   obtain ⟨t276, A50, H⟩ := H
   replace H : (if t276 = true then ((spec_mpBits.f k a1).bind fun t277 => (spec_ImageOfAddress.j0 k a1 (!t277) a0_0 a0_1)) else (spec_ImageOfAddress.j0 k a1 true a0_0 a0_1)) = some (r1, r2) := H
   have A5 := Aside0.mk A50
   clear A50
   by_cases c6 : t276 = true
   rotate_left
   · replace c6 := Bool.eq_false_iff.mpr c6
     subst c6
     rw [if_neg (show ¬ (false = true) by decide)] at H
     have H' := Aside0.mk H
     clear H
     have hcz10_0 : w4.cell? ⟨gb275, 0, none⟩ = some (.string a0_0) := (blk_cell BK275.out 0).trans rfl
     have hcz10_1 : w4.cell? ⟨gb275, 1, none⟩ = some (.string a0_1) := (blk_cell BK275.out 1).trans rfl
     have hfz10_0 := blk_frozen BK275.out 0
     have hfz10_1 := blk_frozen BK275.out 1
     go_wp2_with (first | (go_at_call 26; (with_reducible refine (spec_prGood.calls a0_0 a0_1 false _ A5.out).mono ?_); rintro e w11 ⟨rfl, hb⟩; have n0_ := Aside0.mk (blk_below (lb BK275.out) hb); have n1_ := Aside0.mk (below_step (lB HB.out) hb); clear BK275 HB; have BK275 := n0_; have HB := n1_; clear n0_ n1_; (try clear hb); (try clear hb2); (try clear hk); (try clear hi)))
     repeat (go_quiet (first | (go_at_call 26; (with_reducible refine (spec_prGood.calls a0_0 a0_1 false _ A5.out).mono ?_); rintro e w11 ⟨rfl, hb⟩; have n0_ := Aside0.mk (blk_below (lb BK275.out) hb); have n1_ := Aside0.mk (below_step (lB HB.out) hb); clear BK275 HB; have BK275 := n0_; have HB := n1_; clear n0_ n1_; (try clear hb); (try clear hb2); (try clear hk); (try clear hi))); try go_wp2_with (first | (go_at_call 26; (with_reducible refine (spec_prGood.calls a0_0 a0_1 false _ A5.out).mono ?_); rintro e w11 ⟨rfl, hb⟩; have n0_ := Aside0.mk (blk_below (lb BK275.out) hb); have n1_ := Aside0.mk (below_step (lB HB.out) hb); clear BK275 HB; have BK275 := n0_; have HB := n1_; clear n0_ n1_; (try clear hb); (try clear hb2); (try clear hk); (try clear hi))))
     go_meet
     case rel => exact ⟨_, (true), (by first | rfl | (simp; done) | (simp [*]; done)), H', ⟨by first | omega | exact Nat.le_refl _⟩, ⟨lb BK275.out⟩, ⟨by exact lB HB.out⟩⟩
   subst c6
   rw [if_pos rfl] at H
   replace H := Option.bind_eq_some_iff.mp H
   obtain ⟨t277, A70, H⟩ := H
   replace H : (spec_ImageOfAddress.j0 k a1 (!t277) a0_0 a0_1) = some (r1, r2) := H
   have A7 := Aside0.mk A70
   clear A70
   have H' := Aside0.mk H
   clear H
   have hcz8_0 : w4.cell? ⟨gb275, 0, none⟩ = some (.string a0_0) := (blk_cell BK275.out 0).trans rfl
   have hcz8_1 : w4.cell? ⟨gb275, 1, none⟩ = some (.string a0_1) := (blk_cell BK275.out 1).trans rfl
   have hfz8_0 := blk_frozen BK275.out 0
   have hfz8_1 := blk_frozen BK275.out 1
   go_wp2_with (first | (go_at_call 26; (with_reducible refine (spec_prGood.calls a0_0 a0_1 true _ A5.out).mono ?_); rintro e w9 ⟨rfl, hb⟩; have n0_ := Aside0.mk (blk_below (lb BK275.out) hb); have n1_ := Aside0.mk (below_step (lB HB.out) hb); clear BK275 HB; have BK275 := n0_; have HB := n1_; clear n0_ n1_; (try clear hb); (try clear hb2); (try clear hk); (try clear hi)) | (go_at_call 43; (with_reducible refine (spec_mpBits.calls k a1 t277 _ A7.out).mono ?_); rintro e w' ⟨rfl, ⟨nd, rfl⟩⟩; (try first | exact ⟨rfl, _, World.drewN_drewN _ _ _⟩ | exact ⟨rfl, _, Eq.trans (World.drewN_drewN _ _ _) (congrArg (World.drewN _) (Nat.add_assoc _ _ _))⟩)))
   repeat (go_quiet (first | (go_at_call 26; (with_reducible refine (spec_prGood.calls a0_0 a0_1 true _ A5.out).mono ?_); rintro e w9 ⟨rfl, hb⟩; have n0_ := Aside0.mk (blk_below (lb BK275.out) hb); have n1_ := Aside0.mk (below_step (lB HB.out) hb); clear BK275 HB; have BK275 := n0_; have HB := n1_; clear n0_ n1_; (try clear hb); (try clear hb2); (try clear hk); (try clear hi)) | (go_at_call 43; (with_reducible refine (spec_mpBits.calls k a1 t277 _ A7.out).mono ?_); rintro e w' ⟨rfl, ⟨nd, rfl⟩⟩; (try first | exact ⟨rfl, _, World.drewN_drewN _ _ _⟩ | exact ⟨rfl, _, Eq.trans (World.drewN_drewN _ _ _) (congrArg (World.drewN _) (Nat.add_assoc _ _ _))⟩))); try go_wp2_with (first | (go_at_call 26; (with_reducible refine (spec_prGood.calls a0_0 a0_1 true _ A5.out).mono ?_); rintro e w9 ⟨rfl, hb⟩; have n0_ := Aside0.mk (blk_below (lb BK275.out) hb); have n1_ := Aside0.mk (below_step (lB HB.out) hb); clear BK275 HB; have BK275 := n0_; have HB := n1_; clear n0_ n1_; (try clear hb); (try clear hb2); (try clear hk); (try clear hi)) | (go_at_call 43; (with_reducible refine (spec_mpBits.calls k a1 t277 _ A7.out).mono ?_); rintro e w' ⟨rfl, ⟨nd, rfl⟩⟩; (try first | exact ⟨rfl, _, World.drewN_drewN _ _ _⟩ | exact ⟨rfl, _, Eq.trans (World.drewN_drewN _ _ _) (congrArg (World.drewN _) (Nat.add_assoc _ _ _))⟩))))
   go_meet
   case rel => exact ⟨_, (!t277), (by first | rfl | (simp; done) | (simp [*]; done)), H', ⟨by first | omega | exact Nat.le_refl _⟩, ⟨lb BK275.out⟩, ⟨by exact lB HB.out⟩⟩
  case rest =>
  clear HC3
  obtain ⟨kq, x17_2, rfl, HA, HJ2, BK275, HB⟩ := hcut
  cases kq with
  | zero => exact absurd HA.out (by simp [spec_ImageOfAddress.j0])
  | succ kj2 =>
   have H := HA.out
   clear HA
   simp only [spec_ImageOfAddress.j0] at H
   by_cases c12 : x17_2 = true
   · subst c12
     rw [if_pos rfl] at H
     simp only [Option.some.injEq, Prod.mk.injEq] at H
     obtain ⟨rfl, rfl⟩ := H
     go_wp2
     repeat (go_quiet (fail); try go_wp2)
     go_ret2
     exact ⟨lx, by exact lB HB.out⟩
   replace c12 := Bool.eq_false_iff.mpr c12
   subst c12
   rw [if_neg (show ¬ (false = true) by decide)] at H
   replace H := Option.bind_eq_some_iff.mp H
   obtain ⟨t278, A130, H⟩ := H
   replace H : ((spec_trAddresses.f a0_0 (⟨#[]⟩ : ByteArray)).bind fun t281 => (spec_ImageOfAddress.l0 kj2 a1 t278 t281 (t281.length : Int) 0)) = some (r1, r2) := H
   have A13 := Aside0.mk A130
   clear A130
   replace H := Option.bind_eq_some_iff.mp H
   obtain ⟨t281, A140, H⟩ := H
   replace H : (spec_ImageOfAddress.l0 kj2 a1 t278 t281 (t281.length : Int) 0) = some (r1, r2) := H
   have A14 := Aside0.mk A140
   clear A140
   have H' := Aside0.mk H
   clear H
   have hcz15_0 : wc.cell? ⟨gb275, 0, none⟩ = some (.string a0_0) := (blk_cell BK275.out 0).trans rfl
   have hcz15_1 : wc.cell? ⟨gb275, 1, none⟩ = some (.string a0_1) := (blk_cell BK275.out 1).trans rfl
   have hfz15_0 := blk_frozen BK275.out 0
   have hfz15_1 := blk_frozen BK275.out 1
   go_wp2_with (first | (go_at_call 38; (with_reducible refine (spec_trAddresses.calls a0_1 (⟨#[]⟩ : ByteArray) t278 _ A13.out).mono ?_); rintro e w16 ⟨v279, rfl, ho0, hb⟩; have n0_ := Aside0.mk (Kd.R_lower ho0 (below_size (lB HB.out))); have n1_ := Aside0.mk (blk_below (lb BK275.out) hb); have n2_ := Aside0.mk (below_step (lB HB.out) hb); clear BK275 HB; have HO280 := n0_; have BK275 := n1_; have HB := n2_; clear n0_ n1_ n2_; (try clear hb); (try clear hb2); (try clear hk); (try clear hi); (try clear ho0); have hcz17_0 : w16.cell? ⟨gb275, 0, none⟩ = some (.string a0_0) := (blk_cell BK275.out 0).trans rfl; have hcz17_1 : w16.cell? ⟨gb275, 1, none⟩ = some (.string a0_1) := (blk_cell BK275.out 1).trans rfl; have hfz17_0 := blk_frozen BK275.out 0; have hfz17_1 := blk_frozen BK275.out 1) | (go_at_call 38; (with_reducible refine (spec_trAddresses.calls a0_0 (⟨#[]⟩ : ByteArray) t281 _ A14.out).mono ?_); rintro e w18 ⟨v282, rfl, ho0, hb⟩; have n0_ := Aside0.mk (Kd.R_elder' (by (with_reducible repeat (first | apply Kd.R_alloc | apply Kd.R_drewN | apply Kd.R_drew)); exact HO280.out) (Kd.R_base ho0) hb); have n1_ := Aside0.mk (Kd.R_lower (Kd.R_new' ho0 (Kd.R_lt (by (with_reducible repeat (first | apply Kd.R_alloc | apply Kd.R_drewN | apply Kd.R_drew)); exact HO280.out))) (below_size (lB HB.out))); have n2_ := Aside0.mk (blk_below (lb BK275.out) hb); have n3_ := Aside0.mk (below_step (lB HB.out) hb); clear HO280 BK275 HB; have HO280 := n0_; have HO283 := n1_; have BK275 := n2_; have HB := n3_; clear n0_ n1_ n2_ n3_; (try clear hb); (try clear hb2); (try clear hk); (try clear hi); (try clear ho0); obtain ⟨Ao19, co19, eo19⟩ := Kd.R_slice HO283.out; subst eo19))
   repeat (go_quiet (first | (go_at_call 38; (with_reducible refine (spec_trAddresses.calls a0_1 (⟨#[]⟩ : ByteArray) t278 _ A13.out).mono ?_); rintro e w16 ⟨v279, rfl, ho0, hb⟩; have n0_ := Aside0.mk (Kd.R_lower ho0 (below_size (lB HB.out))); have n1_ := Aside0.mk (blk_below (lb BK275.out) hb); have n2_ := Aside0.mk (below_step (lB HB.out) hb); clear BK275 HB; have HO280 := n0_; have BK275 := n1_; have HB := n2_; clear n0_ n1_ n2_; (try clear hb); (try clear hb2); (try clear hk); (try clear hi); (try clear ho0); have hcz17_0 : w16.cell? ⟨gb275, 0, none⟩ = some (.string a0_0) := (blk_cell BK275.out 0).trans rfl; have hcz17_1 : w16.cell? ⟨gb275, 1, none⟩ = some (.string a0_1) := (blk_cell BK275.out 1).trans rfl; have hfz17_0 := blk_frozen BK275.out 0; have hfz17_1 := blk_frozen BK275.out 1) | (go_at_call 38; (with_reducible refine (spec_trAddresses.calls a0_0 (⟨#[]⟩ : ByteArray) t281 _ A14.out).mono ?_); rintro e w18 ⟨v282, rfl, ho0, hb⟩; have n0_ := Aside0.mk (Kd.R_elder' (by (with_reducible repeat (first | apply Kd.R_alloc | apply Kd.R_drewN | apply Kd.R_drew)); exact HO280.out) (Kd.R_base ho0) hb); have n1_ := Aside0.mk (Kd.R_lower (Kd.R_new' ho0 (Kd.R_lt (by (with_reducible repeat (first | apply Kd.R_alloc | apply Kd.R_drewN | apply Kd.R_drew)); exact HO280.out))) (below_size (lB HB.out))); have n2_ := Aside0.mk (blk_below (lb BK275.out) hb); have n3_ := Aside0.mk (below_step (lB HB.out) hb); clear HO280 BK275 HB; have HO280 := n0_; have HO283 := n1_; have BK275 := n2_; have HB := n3_; clear n0_ n1_ n2_ n3_; (try clear hb); (try clear hb2); (try clear hk); (try clear hi); (try clear ho0); obtain ⟨Ao19, co19, eo19⟩ := Kd.R_slice HO283.out; subst eo19)); try go_wp2_with (first | (go_at_call 38; (with_reducible refine (spec_trAddresses.calls a0_1 (⟨#[]⟩ : ByteArray) t278 _ A13.out).mono ?_); rintro e w16 ⟨v279, rfl, ho0, hb⟩; have n0_ := Aside0.mk (Kd.R_lower ho0 (below_size (lB HB.out))); have n1_ := Aside0.mk (blk_below (lb BK275.out) hb); have n2_ := Aside0.mk (below_step (lB HB.out) hb); clear BK275 HB; have HO280 := n0_; have BK275 := n1_; have HB := n2_; clear n0_ n1_ n2_; (try clear hb); (try clear hb2); (try clear hk); (try clear hi); (try clear ho0); have hcz17_0 : w16.cell? ⟨gb275, 0, none⟩ = some (.string a0_0) := (blk_cell BK275.out 0).trans rfl; have hcz17_1 : w16.cell? ⟨gb275, 1, none⟩ = some (.string a0_1) := (blk_cell BK275.out 1).trans rfl; have hfz17_0 := blk_frozen BK275.out 0; have hfz17_1 := blk_frozen BK275.out 1) | (go_at_call 38; (with_reducible refine (spec_trAddresses.calls a0_0 (⟨#[]⟩ : ByteArray) t281 _ A14.out).mono ?_); rintro e w18 ⟨v282, rfl, ho0, hb⟩; have n0_ := Aside0.mk (Kd.R_elder' (by (with_reducible repeat (first | apply Kd.R_alloc | apply Kd.R_drewN | apply Kd.R_drew)); exact HO280.out) (Kd.R_base ho0) hb); have n1_ := Aside0.mk (Kd.R_lower (Kd.R_new' ho0 (Kd.R_lt (by (with_reducible repeat (first | apply Kd.R_alloc | apply Kd.R_drewN | apply Kd.R_drew)); exact HO280.out))) (below_size (lB HB.out))); have n2_ := Aside0.mk (blk_below (lb BK275.out) hb); have n3_ := Aside0.mk (below_step (lB HB.out) hb); clear HO280 BK275 HB; have HO280 := n0_; have HO283 := n1_; have BK275 := n2_; have HB := n3_; clear n0_ n1_ n2_ n3_; (try clear hb); (try clear hb2); (try clear hk); (try clear hi); (try clear ho0); obtain ⟨Ao19, co19, eo19⟩ := Kd.R_slice HO283.out; subst eo19)))
   go_loopg [25] kj2 (fun kq v25 w' => ∃ (x25_2 : Int), v25 = .int .i64 x25_2 ∧ Aside0 (spec_ImageOfAddress.l0 kq a1 t278 t281 (t281.length : Int) x25_2 = some (r1, r2)) ∧ Aside0 (kq ≤ kj2) ∧ Aside0 (Kd.R Kd.string 9 w' w.heap.size (fun k_ => some k_ ≠ ((.slice Ao19 t281.length co19) : Value).ownBlock) v279 t278) ∧ Aside0 (Kd.R Kd.string 9 w' w.heap.size (fun k_ => some k_ ≠ (v279 : Value).ownBlock) (.slice Ao19 t281.length co19) t281) ∧ Aside0 (w'.heap[gb275]? = some (.cells #[.string a0_0, .string a0_1] 25 (0, 0))) ∧ Aside0 (Below w.heap.size w w'))
   case atStart => exact ⟨(0), (by first | rfl | (simp; done) | (simp [*]; done)), H', ⟨Nat.le_refl _⟩, ⟨by (with_reducible repeat (first | apply Kd.R_alloc | apply Kd.R_drewN | apply Kd.R_drew)); exact Kd.R_mono HO280.out (fun _ hk => hk.2)⟩, ⟨by (with_reducible repeat (first | apply Kd.R_alloc | apply Kd.R_drewN | apply Kd.R_drew)); exact Kd.R_mono HO283.out (fun _ hk => hk.2)⟩, ⟨lb BK275.out⟩, ⟨by exact lB HB.out⟩⟩
   case round =>
    clear H'
    (try clear c12)
    (try clear hcz15_0)
    (try clear hcz15_1)
    (try clear hcz17_0)
    (try clear hcz17_1)
    (try clear hfz15_0)
    (try clear hfz15_1)
    (try clear hfz17_0)
    (try clear hfz17_1)
    obtain ⟨x25_2, rfl, HA, HK2, HO_6, HO_23, BK275, HB⟩ := hrel
    cases gk with
    | zero => exact absurd HA.out (by simp [spec_ImageOfAddress.l0])
    | succ k2 =>
      have H := HA.out
      clear HA
      simp only [spec_ImageOfAddress.l0] at H
      by_cases c20 : x25_2 < (t281.length : Int)
      · rw [if_pos c20] at H
        have c20b0 : decide (x25_2 < (t281.length : Int)) = true := decide_eq_true c20
        clear c20
        by_cases c21 : 0 ≤ x25_2
        · rw [if_pos c21] at H
          have c21b0 : decide (0 ≤ x25_2) = true := decide_eq_true c21
          clear c21
          by_cases c22 : x25_2 < (t281.length : Int)
          · rw [if_pos c22] at H
            have c22b0 : decide (x25_2 < (t281.length : Int)) = true := decide_eq_true c22
            clear c22
            have HC23 := Aside0.mk H
            clear H
            have p284 : 0 ≤ (x25_2 : Int) := of_decide_eq_true (by first | (with_reducible assumption) | assumption)
            have q284 : x25_2 < (t281.length : Int) := of_decide_eq_true (by first | (with_reducible assumption) | assumption)
            obtain ⟨ad284, e284, hx284_0⟩ := Kd.at_string (Kd.R_reads' HO_23.out).2.2 x25_2 p284 q284
            cases e284
            replace p284 := eq_true p284
            replace q284 := eq_true q284
            go_upto_region 7 with (fail)
            repeat (go_quiet (fail); go_upto_region 7 with (fail))
            go_cut [42] (fun v42 wc => ∃ (kq : Nat) (x42_22 : Bool), v42 = .bool x42_22 ∧ Aside0 (spec_ImageOfAddress.j2 kq a1 t278 x25_2 (rdOf ByteArray.empty t281 x25_2) t281 (t281.length : Int) x25_2 x42_22 = some (r1, r2)) ∧ Aside0 (kq ≤ k2) ∧ Aside0 (Kd.R Kd.string 9 wc w.heap.size (fun k_ => some k_ ≠ ((.slice (some ad284) t281.length co19) : Value).ownBlock) v279 t278) ∧ Aside0 (Kd.R Kd.string 9 wc w.heap.size (fun k_ => some k_ ≠ (v279 : Value).ownBlock) (.slice (some ad284) t281.length co19) t281) ∧ Aside0 (wc.heap[gb275]? = some (.cells #[.string a0_0, .string a0_1] 25 (0, 0))) ∧ Aside0 (Below w.heap.size w wc))
            case first =>
              have H := HC23.out
              clear HC23
              by_cases c24 : ((rdOf ByteArray.empty t281 x25_2).size : Int) ≤ (a1.size : Int)
              · rw [if_pos c24] at H
                have c24b0 : decide (((rdOf ByteArray.empty t281 x25_2).size : Int) ≤ (a1.size : Int)) = true := decide_eq_true c24
                have c24b1 : decide ((rdOf ByteArray.empty t281 x25_2).size ≤ a1.size) = true := decide_eq_true (Int.ofNat_le.mp c24)
                clear c24
                (first | rw [c24b0] | (simp only [i64_w, i32_w]; rw [c24b0]) | skip)
                by_cases c25 : 0 ≤ ((rdOf ByteArray.empty t281 x25_2).size : Int)
                · rw [if_pos c25] at H
                  have c25b0 := eq_true c25
                  have c25b1 : decide (0 ≤ ((rdOf ByteArray.empty t281 x25_2).size : Int)) = true := decide_eq_true c25
                  clear c25
                  have c26b0 := eq_true (of_decide_eq_true (by first | (with_reducible assumption) | assumption) : ((rdOf ByteArray.empty t281 x25_2).size : Int) ≤ (a1.size : Int))
                  have H' := Aside0.mk H
                  clear H
                  go_wp2
                  repeat (go_quiet (fail); try go_wp2)
                  go_meet
                  case rel => exact ⟨_, (((a1.extract 0 (((rdOf ByteArray.empty t281 x25_2).size : Int) : Int).toNat).toList == (rdOf ByteArray.empty t281 x25_2).toList)), (by first | rfl | (simp; done) | (simp [*]; done)), H', ⟨by have := HJ2.out; have := HK2.out; first | omega | exact Nat.le_refl _⟩, ⟨by (with_reducible repeat (first | apply Kd.R_alloc | apply Kd.R_drewN | apply Kd.R_drew)); exact HO_6.out⟩, ⟨by (with_reducible repeat (first | apply Kd.R_alloc | apply Kd.R_drewN | apply Kd.R_drew)); exact HO_23.out⟩, ⟨lb BK275.out⟩, ⟨by exact lB HB.out⟩⟩
                · rw [if_neg c25] at H
                  exact absurd H (by simp)
              · rw [if_neg c24] at H
                have c24b0 : decide (((rdOf ByteArray.empty t281 x25_2).size : Int) ≤ (a1.size : Int)) = false := decide_eq_false c24
                have c24b1 : decide ((rdOf ByteArray.empty t281 x25_2).size ≤ a1.size) = false := decide_eq_false (fun h => c24 (Int.ofNat_le.mpr h))
                clear c24
                (first | rw [c24b0] | (simp only [i64_w, i32_w]; rw [c24b0]) | skip)
                have H' := Aside0.mk H
                clear H
                go_wp2
                repeat (go_quiet (fail); try go_wp2)
                go_meet
                case rel => exact ⟨_, (false), (by first | rfl | (simp; done) | (simp [*]; done)), H', ⟨by have := HJ2.out; have := HK2.out; first | omega | exact Nat.le_refl _⟩, ⟨by (with_reducible repeat (first | apply Kd.R_alloc | apply Kd.R_drewN | apply Kd.R_drew)); exact HO_6.out⟩, ⟨by (with_reducible repeat (first | apply Kd.R_alloc | apply Kd.R_drewN | apply Kd.R_drew)); exact HO_23.out⟩, ⟨lb BK275.out⟩, ⟨by exact lB HB.out⟩⟩
            case rest =>
              clear HC23
              (try clear c20)
              (try clear c20b0)
              (try clear c21)
              (try clear c21b0)
              (try clear c22)
              (try clear c22b0)
              (try clear hx284_0)
              (try clear p284)
              (try clear q284)
              obtain ⟨kq, x42_22, rfl, HA, HJ22, HO_6, HO_23, BK275, HB⟩ := hcut
              cases kq with
              | zero => exact absurd HA.out (by simp [spec_ImageOfAddress.j2])
              | succ kj22 =>
                have H := HA.out
                clear HA
                simp only [spec_ImageOfAddress.j2] at H
                by_cases c27 : x42_22 = true
                · subst c27
                  have H1 : (if 0 ≤ x25_2 then (if x25_2 < (t278.length : Int) then (if 0 ≤ ((rdOf ByteArray.empty t281 x25_2).size : Int) then (if ((rdOf ByteArray.empty t281 x25_2).size : Int) ≤ (a1.size : Int) then (if (rdOf ByteArray.empty t278 x25_2).size + (a1.extract (((rdOf ByteArray.empty t281 x25_2).size : Int) : Int).toNat a1.size).size ≤ 9223372036854775807 then (if (((rdOf ByteArray.empty t278 x25_2) ++ (a1.extract (((rdOf ByteArray.empty t281 x25_2).size : Int) : Int).toNat a1.size)).size : Int) > 10 then (some ((⟨#[]⟩ : ByteArray), false)) else (some ((rdOf ByteArray.empty t278 x25_2) ++ (a1.extract (((rdOf ByteArray.empty t281 x25_2).size : Int) : Int).toNat a1.size), true))) else (none)) else (none)) else (none)) else (none)) else (none)) = some (r1, r2) := by rw [if_pos rfl] at H; exact H
                  clear H
                  have H := H1
                  clear H1
                  by_cases c28 : 0 ≤ x25_2
                  · rw [if_pos c28] at H
                    have c28b0 : decide (0 ≤ x25_2) = true := decide_eq_true c28
                    clear c28
                    by_cases c29 : x25_2 < (t278.length : Int)
                    · rw [if_pos c29] at H
                      have c29b0 : decide (x25_2 < (t278.length : Int)) = true := decide_eq_true c29
                      clear c29
                      by_cases c30 : 0 ≤ ((rdOf ByteArray.empty t281 x25_2).size : Int)
                      · rw [if_pos c30] at H
                        have c30b0 := eq_true c30
                        have c30b1 : decide (0 ≤ ((rdOf ByteArray.empty t281 x25_2).size : Int)) = true := decide_eq_true c30
                        clear c30
                        by_cases c31 : ((rdOf ByteArray.empty t281 x25_2).size : Int) ≤ (a1.size : Int)
                        · rw [if_pos c31] at H
                          have c31b0 := eq_true c31
                          have c31b1 : decide (((rdOf ByteArray.empty t281 x25_2).size : Int) ≤ (a1.size : Int)) = true := decide_eq_true c31
                          clear c31
                          by_cases c32 : (rdOf ByteArray.empty t278 x25_2).size + (a1.extract (((rdOf ByteArray.empty t281 x25_2).size : Int) : Int).toNat a1.size).size ≤ 9223372036854775807
                          · rw [if_pos c32] at H
                            have c32b0 := eq_true c32
                            have c32b1 : decide ((rdOf ByteArray.empty t278 x25_2).size + (a1.extract (((rdOf ByteArray.empty t281 x25_2).size : Int) : Int).toNat a1.size).size ≤ 9223372036854775807) = true := decide_eq_true c32
                            try have c32b2 : (9223372036854775807 < (rdOf ByteArray.empty t278 x25_2).size + (a1.extract (((rdOf ByteArray.empty t281 x25_2).size : Int) : Int).toNat a1.size).size) = False := eq_false (Nat.not_lt.2 c32)
                            have zc32 : (9223372036854775807 < (rdOf ByteArray.empty t278 x25_2).size + (a1.size - (rdOf ByteArray.empty t281 x25_2).size)) = False := eq_false (by have h := c32; simp only [Int.toNat_natCast, ByteArray.size_extract, Nat.min_self] at h; omega)
                            by_cases c33 : (((rdOf ByteArray.empty t278 x25_2) ++ (a1.extract (((rdOf ByteArray.empty t281 x25_2).size : Int) : Int).toNat a1.size)).size : Int) > 10
                            · rw [if_pos c33] at H
                              have c33b0 : decide (10 < (((rdOf ByteArray.empty t278 x25_2) ++ (a1.extract (((rdOf ByteArray.empty t281 x25_2).size : Int) : Int).toNat a1.size)).size : Int)) = true := decide_eq_true c33
                              have zc33 : 10 < ((rdOf ByteArray.empty t278 x25_2).size : Int) + ((a1.size - (rdOf ByteArray.empty t281 x25_2).size : Nat) : Int) := by have h := c33; simp only [Int.toNat_natCast, ByteArray.size_append, ByteArray.size_extract, Nat.min_self] at h; omega
                              have c33b1 : decide (10 < ((rdOf ByteArray.empty t278 x25_2) ++ (a1.extract (((rdOf ByteArray.empty t281 x25_2).size : Int) : Int).toNat a1.size)).size) = true := decide_eq_true (by omega)
                              clear c33
                              simp only [Option.some.injEq, Prod.mk.injEq] at H
                              obtain ⟨rfl, rfl⟩ := H
                              obtain ⟨Ao34, co34, eo34⟩ := Kd.R_slice HO_6.out
                              subst eo34
                              have p285 : 0 ≤ (x25_2 : Int) := of_decide_eq_true (by first | (with_reducible assumption) | assumption)
                              have q285 : x25_2 < (t278.length : Int) := of_decide_eq_true (by first | (with_reducible assumption) | assumption)
                              obtain ⟨ad285, e285, hx285_0⟩ := Kd.at_string (Kd.R_reads' HO_6.out).2.2 x25_2 p285 q285
                              cases e285
                              replace p285 := eq_true p285
                              replace q285 := eq_true q285
                              go_wp2
                              repeat (go_quiet (fail); try go_wp2)
                              go_ret2
                              exact ⟨lx, by exact lB HB.out⟩
                            · rw [if_neg c33] at H
                              have c33b0 : decide (10 < (((rdOf ByteArray.empty t278 x25_2) ++ (a1.extract (((rdOf ByteArray.empty t281 x25_2).size : Int) : Int).toNat a1.size)).size : Int)) = false := decide_eq_false c33
                              have zc33 : ((rdOf ByteArray.empty t278 x25_2).size : Int) + ((a1.size - (rdOf ByteArray.empty t281 x25_2).size : Nat) : Int) ≤ 10 := by have h := c33; simp only [Int.toNat_natCast, ByteArray.size_append, ByteArray.size_extract, Nat.min_self] at h; omega
                              have c33b1 : decide (10 < ((rdOf ByteArray.empty t278 x25_2) ++ (a1.extract (((rdOf ByteArray.empty t281 x25_2).size : Int) : Int).toNat a1.size)).size) = false := decide_eq_false (by omega)
                              clear c33
                              simp only [Option.some.injEq, Prod.mk.injEq] at H
                              obtain ⟨rfl, rfl⟩ := H
                              obtain ⟨Ao35, co35, eo35⟩ := Kd.R_slice HO_6.out
                              subst eo35
                              have p285 : 0 ≤ (x25_2 : Int) := of_decide_eq_true (by first | (with_reducible assumption) | assumption)
                              have q285 : x25_2 < (t278.length : Int) := of_decide_eq_true (by first | (with_reducible assumption) | assumption)
                              obtain ⟨ad285, e285, hx285_0⟩ := Kd.at_string (Kd.R_reads' HO_6.out).2.2 x25_2 p285 q285
                              cases e285
                              replace p285 := eq_true p285
                              replace q285 := eq_true q285
                              go_wp2
                              repeat (go_quiet (fail); try go_wp2)
                              go_ret2
                              exact ⟨lx, by exact lB HB.out⟩
                          · rw [if_neg c32] at H
                            exact absurd H (by simp)
                        · rw [if_neg c31] at H
                          exact absurd H (by simp)
                      · rw [if_neg c30] at H
                        exact absurd H (by simp)
                    · rw [if_neg c29] at H
                      exact absurd H (by simp)
                  · rw [if_neg c28] at H
                    exact absurd H (by simp)
                · replace c27 := Bool.eq_false_iff.mpr c27
                  subst c27
                  have H1 : (spec_ImageOfAddress.l0 kj22 a1 t278 t281 (t281.length : Int) (wrap64 (x25_2 + 1))) = some (r1, r2) := by rw [if_neg (show ¬ (false = true) by decide)] at H; exact H
                  clear H
                  have H := H1
                  clear H1
                  have H' := Aside0.mk H
                  clear H
                  go_wp2
                  repeat (go_quiet (fail); try go_wp2)
                  go_roundg kj22
                  case measure => have := HJ2.out; have := HK2.out; have := HJ22.out; omega
                  case rel => exact ⟨(wrap64 (x25_2 + 1)), (by first | rfl | (simp; done) | (simp [*]; done)), H', ⟨by have := HJ2.out; have := HK2.out; have := HJ22.out; omega⟩, ⟨by (with_reducible repeat (first | apply Kd.R_alloc | apply Kd.R_drewN | apply Kd.R_drew)); exact HO_6.out⟩, ⟨by (with_reducible repeat (first | apply Kd.R_alloc | apply Kd.R_drewN | apply Kd.R_drew)); exact HO_23.out⟩, ⟨lb BK275.out⟩, ⟨by exact lB HB.out⟩⟩
          · rw [if_neg c22] at H
            exact absurd H (by simp)
        · rw [if_neg c21] at H
          exact absurd H (by simp)
      · rw [if_neg c20] at H
        have c20b0 : decide (x25_2 < (t281.length : Int)) = false := decide_eq_false c20
        clear c20
        simp only [Option.some.injEq, Prod.mk.injEq] at H
        obtain ⟨rfl, rfl⟩ := H
        go_wp2
        repeat (go_quiet (fail); try go_wp2)
        go_ret2
        exact ⟨lx, by exact lB HB.out⟩
def impl_FractionOf.f (a0 : ByteArray) : Option (Int × Int × Bool) := (impl_isAddress.f a0).bind fun t287 => (if t287 = true then ((impl_placeOf.f a0).bind fun t288 => ((impl_toldAt.f t288).bind fun bt289 => (some (bt289.1, bt289.2.1, bt289.2.2)))) else (some (0, 0, false)))
set_option maxHeartbeats 8000000 in
set_option maxRecDepth 100000 in
theorem impl_FractionOf.calls (a0 : ByteArray) (r1 : Int) (r2 : Int) (r3 : Bool) (w : World) (h : impl_FractionOf.f a0 = some (r1, r2, r3)) :
    Calls Tryz.prog 15 #[.string a0] w fun e w' => e = .returned (.tuple #[.agg #[.int .i64 r1, .int .i64 r2], .bool r3]) ∧ Below w.heap.size w w' := by
  have hu27 := Tryz.underlying27
  have HB := Aside0.mk (Below.refl w.heap.size w)
  have H : ((impl_isAddress.f a0).bind fun t287 => (if t287 = true then ((impl_placeOf.f a0).bind fun t288 => ((impl_toldAt.f t288).bind fun bt289 => (some (bt289.1, bt289.2.1, bt289.2.2)))) else (some (0, 0, false)))) = some (r1, r2, r3) := h
  clear h
  replace H := Option.bind_eq_some_iff.mp H
  obtain ⟨t287, A20, H⟩ := H
  replace H : (if t287 = true then ((impl_placeOf.f a0).bind fun t288 => ((impl_toldAt.f t288).bind fun bt289 => (some (bt289.1, bt289.2.1, bt289.2.2)))) else (some (0, 0, false))) = some (r1, r2, r3) := H
  have A2 := Aside0.mk A20
  clear A20
  by_cases c3 : t287 = true
  rotate_left
  · replace c3 := Bool.eq_false_iff.mpr c3
    subst c3
    rw [if_neg (show ¬ (false = true) by decide)] at H
    simp only [Option.some.injEq, Prod.mk.injEq] at H
    obtain ⟨rfl, rfl, rfl⟩ := H
    go_enter Tryz.func15, Tryz.ntmps15
    go_wp2_with (first | ((with_reducible refine gate_dst (N := 2) rfl ?_); refine box_event ?hg (N := 2) ?hd (cs := #[.int .i64 0, .int .i64 0]) (t := 27) ?hr ?_; (case hd => rfl); (case hg => rfl); (case hr => exact lr); intro gb286 hg w11 hbox hb; have n0_ := Aside0.mk (below_step (lB HB.out) hb); have n1_ := Aside0.mk (hbox); have n2_ := gw hg (lB HB.out); have n3_ := gw hg (lB HB.out); clear HB; have HB := n0_; have BK286 := n1_; have GW286 := n2_; have GE286 := n3_; clear n0_ n1_ n2_ n3_; clear hb hbox hg) | ((with_reducible refine gate_callee (f := 40) rfl ?_); refine goesL_ (some 5) rfl rfl Tryz.func40 (by kernel_rfl) rfl #[.string a0] rfl lm ?_; (with_reducible refine (impl_isAddress.calls a0 false _ A2.out).mono ?_); rintro e w12 ⟨rfl, hb⟩; refine ⟨_, rfl, ?_⟩; have n0_ := Aside0.mk (blk_below (lb BK286.out) hb); have n1_ := Aside0.mk (below_step (lB HB.out) hb); clear BK286 HB; have BK286 := n0_; have HB := n1_; clear n0_ n1_; (try clear hb); (try clear hb2); (try clear hk); (try clear hi); have hcz13_0 : w12.cell? ⟨gb286, 0, none⟩ = some (.int .i64 0) := (blk_cell BK286.out 0).trans rfl; have hcz13_1 : w12.cell? ⟨gb286, 1, none⟩ = some (.int .i64 0) := (blk_cell BK286.out 1).trans rfl; have hfz13_0 := blk_frozen BK286.out 0; have hfz13_1 := blk_frozen BK286.out 1))
    refine bodyPost_ret (results_ct rfl _ _ gb286 27 #[.int .i64 0, .int .i64 0] (0, 0) _ rfl (by (with_reducible repeat (first | refine blk_drewN ?_ _ | refine blk_drew ?_ | refine blk_alloc ?_ _)); refine blk_put (cs := #[.int .i64 0, .int .i64 0]) ?_ 1 _ rfl; (with_reducible repeat (first | refine blk_drewN ?_ _ | refine blk_drew ?_ | refine blk_alloc ?_ _)); refine blk_put (cs := #[.int .i64 0, .int .i64 0]) ?_ 0 _ rfl; exact lb BK286.out) Tryz.underlying27 rfl (by kernel_rfl)) rfl ?_
    exact ⟨lx, by exact lB HB.out⟩

  subst c3
  rw [if_pos rfl] at H
  replace H := Option.bind_eq_some_iff.mp H
  obtain ⟨t288, A40, H⟩ := H
  replace H : ((impl_toldAt.f t288).bind fun bt289 => (some (bt289.1, bt289.2.1, bt289.2.2))) = some (r1, r2, r3) := H
  have A4 := Aside0.mk A40
  clear A40
  replace H := Option.bind_eq_some_iff.mp H
  obtain ⟨⟨t289, t290, t291⟩, A50, H⟩ := H
  replace H : (some (t289, t290, t291)) = some (r1, r2, r3) := H
  have A5 := Aside0.mk A50
  clear A50
  simp only [Option.some.injEq, Prod.mk.injEq] at H
  obtain ⟨rfl, rfl, rfl⟩ := H
  go_enter Tryz.func15, Tryz.ntmps15
  go_wp2_with (first | ((with_reducible refine gate_dst (N := 2) rfl ?_); refine box_event ?hg (N := 2) ?hd (cs := #[.int .i64 0, .int .i64 0]) (t := 27) ?hr ?_; (case hd => rfl); (case hg => rfl); (case hr => exact lr); intro gb286 hg w6 hbox hb; have n0_ := Aside0.mk (below_step (lB HB.out) hb); have n1_ := Aside0.mk (hbox); have n2_ := gw hg (lB HB.out); have n3_ := gw hg (lB HB.out); clear HB; have HB := n0_; have BK286 := n1_; have GW286 := n2_; have GE286 := n3_; clear n0_ n1_ n2_ n3_; clear hb hbox hg) | ((with_reducible refine gate_callee (f := 40) rfl ?_); refine goesL_ (some 5) rfl rfl Tryz.func40 (by kernel_rfl) rfl #[.string a0] rfl lm ?_; (with_reducible refine (impl_isAddress.calls a0 true _ A2.out).mono ?_); rintro e w7 ⟨rfl, hb⟩; refine ⟨_, rfl, ?_⟩; have n0_ := Aside0.mk (blk_below (lb BK286.out) hb); have n1_ := Aside0.mk (below_step (lB HB.out) hb); clear BK286 HB; have BK286 := n0_; have HB := n1_; clear n0_ n1_; (try clear hb); (try clear hb2); (try clear hk); (try clear hi)) | ((with_reducible refine gate_callee (f := 44) rfl ?_); refine goesL_ (some 9) rfl rfl Tryz.func44 (by kernel_rfl) rfl #[.string a0] rfl lm ?_; (with_reducible refine (impl_placeOf.calls a0 t288 _ A4.out).mono ?_); rintro e w8 ⟨rfl, hb⟩; refine ⟨_, rfl, ?_⟩; have n0_ := Aside0.mk (blk_below (lb BK286.out) hb); have n1_ := Aside0.mk (below_step (lB HB.out) hb); clear BK286 HB; have BK286 := n0_; have HB := n1_; clear n0_ n1_; (try clear hb); (try clear hb2); (try clear hk); (try clear hi)) | ((with_reducible refine gate_callee (f := 23) rfl ?_); refine goesL_ (some 10) rfl rfl Tryz.func23 (by kernel_rfl) rfl #[.int .i64 t288] rfl lm ?_; (with_reducible refine (impl_toldAt.calls t288 t289 t290 t291 _ A5.out).mono ?_); rintro e w9 ⟨rfl, hb⟩; refine ⟨_, rfl, ?_⟩; have n0_ := Aside0.mk (blk_below (lb BK286.out) hb); have n1_ := Aside0.mk (below_step (lB HB.out) hb); clear BK286 HB; have BK286 := n0_; have HB := n1_; clear n0_ n1_; (try clear hb); (try clear hb2); (try clear hk); (try clear hi); have hcz10_0 : w9.cell? ⟨gb286, 0, none⟩ = some (.int .i64 0) := (blk_cell BK286.out 0).trans rfl; have hcz10_1 : w9.cell? ⟨gb286, 1, none⟩ = some (.int .i64 0) := (blk_cell BK286.out 1).trans rfl; have hfz10_0 := blk_frozen BK286.out 0; have hfz10_1 := blk_frozen BK286.out 1))
  refine bodyPost_ret (results_ct rfl _ _ gb286 27 #[.int .i64 t289, .int .i64 t290] (0, 0) _ rfl (by (with_reducible repeat (first | refine blk_drewN ?_ _ | refine blk_drew ?_ | refine blk_alloc ?_ _)); refine blk_put (cs := #[.int .i64 t289, .int .i64 0]) ?_ 1 _ rfl; (with_reducible repeat (first | refine blk_drewN ?_ _ | refine blk_drew ?_ | refine blk_alloc ?_ _)); refine blk_put (cs := #[.int .i64 0, .int .i64 0]) ?_ 0 _ rfl; exact lb BK286.out) Tryz.underlying27 rfl (by kernel_rfl)) rfl ?_
  exact ⟨lx, by exact lB HB.out⟩
def impl_HalfOf.j0 : Nat → Bool → Int → Int → Int → Int → Option (Int × Int × Bool)
  | 0, _, _, _, _, _ => none
  | k + 1, x13, x304000, x304001, x305000, x305001 => if x13 = true then (some (0, 0, false)) else ((impl_Fraction_place.f x304000 x304001).bind fun t308 => ((impl_Fraction_place.f x305000 x305001).bind fun t309 => ((impl_toldAt.f (wrap64 (Int.tdiv (wrap64 (t308 + t309)) 2))).bind fun bt310 => (some (bt310.1, bt310.2.1, bt310.2.2)))))
def impl_HalfOf.f (k : Nat) (a0_0 : Int) (a0_1 : Int) (a1_0 : Int) (a1_1 : Int) : Option (Int × Int × Bool) := (impl_IsFraction.f a0_0 a0_1).bind fun t306 => (if t306 = true then ((impl_IsFraction.f a1_0 a1_1).bind fun t307 => (impl_HalfOf.j0 k (!t307) a0_0 a0_1 a1_0 a1_1)) else (impl_HalfOf.j0 k true a0_0 a0_1 a1_0 a1_1))
def impl_HalfOf.T3 : Bool × List (List Nat × List Nat) := (true, [([], []), ([0], [0]), ([], []), ([2, 1], [2]), ([1, 3], [1, 3]), ([4], [4]), ([5, 3], [5]), ([6], [6]), ([6], [6]), ([7, 6, 0, 1, 2, 3, 4, 5, 6, 7, 8], [7]), ([8, 9, 0, 1, 2, 3, 4, 5, 6, 7, 8, 9], [8])])
def impl_HalfOf.B3 : List Nat := [0, 1, 0, 7, 15, 31, 63, 127, 127, 511, 1023]
theorem impl_HalfOf.tab3 : rtab .any (opsOf Tryz.f17 3) = impl_HalfOf.T3 := by kernel_rfl
theorem impl_HalfOf.bits3 : waitsOk impl_HalfOf.T3.2 impl_HalfOf.B3 = true := by kernel_rfl
set_option maxHeartbeats 8000000 in
set_option maxRecDepth 100000 in
theorem impl_HalfOf.calls (k : Nat) (a0_0 : Int) (a0_1 : Int) (a1_0 : Int) (a1_1 : Int) (r1 : Int) (r2 : Int) (r3 : Bool) (w : World) (h : impl_HalfOf.f k a0_0 a0_1 a1_0 a1_1 = some (r1, r2, r3)) :
    Calls Tryz.prog 17 #[.agg #[.int .i64 a0_0, .int .i64 a0_1], .agg #[.int .i64 a1_0, .int .i64 a1_1]] w fun e w' => e = .returned (.tuple #[.agg #[.int .i64 r1, .int .i64 r2], .bool r3]) ∧ Below w.heap.size w w' := by
  have hu27 := Tryz.underlying27
  have HB := Aside0.mk (Below.refl w.heap.size w)
  have H : ((impl_IsFraction.f a0_0 a0_1).bind fun t306 => (if t306 = true then ((impl_IsFraction.f a1_0 a1_1).bind fun t307 => (impl_HalfOf.j0 k (!t307) a0_0 a0_1 a1_0 a1_1)) else (impl_HalfOf.j0 k true a0_0 a0_1 a1_0 a1_1))) = some (r1, r2, r3) := h
  clear h
  have HC3 := Aside0.mk H
  clear H
  go_enter Tryz.func17, Tryz.ntmps17
  go_upto_region 1 with (first | ((with_reducible refine gate_dst (N := 2) rfl ?_); refine box_event ?hg (N := 2) ?hd (cs := #[.int .i64 a0_0, .int .i64 a0_1]) (t := 27) ?hr ?_; (case hd => rfl); (case hg => rfl); (case hr => exact lr); intro gb303 hg w4 hbox hb; have n0_ := Aside0.mk (below_step (lB HB.out) hb); have n1_ := Aside0.mk (hbox); have n2_ := gw hg (lB HB.out); have n3_ := gw hg (lB HB.out); clear HB; have HB := n0_; have BK303 := n1_; have GW303 := n2_; have GE303 := n3_; clear n0_ n1_ n2_ n3_; clear hb hbox hg) | ((with_reducible refine gate_dst (N := 3) rfl ?_); refine box_event ?hg (N := 3) ?hd (cs := #[.int .i64 a1_0, .int .i64 a1_1]) (t := 27) ?hr ?_; (case hd => rfl); (case hg => rfl); (case hr => exact lr); intro gb304 hg w5 hbox hb; have n0_ := Aside0.mk (blk_below (lb BK303.out) hb); have n1_ := Aside0.mk (below_step (lB HB.out) hb); have n2_ := Aside0.mk (hbox); have n3_ := gw hg (lB HB.out); have n4_ := gw hg (lB HB.out); have n5_ := na hg (lb BK303.out); have n6_ := nz hg (lb BK303.out); clear BK303 HB; have BK303 := n0_; have HB := n1_; have BK304 := n2_; have GW304 := n3_; have GE304 := n4_; have NB303_304 := n5_; have NB304_303 := n6_; clear n0_ n1_ n2_ n3_ n4_ n5_ n6_; clear hb hbox hg) | ((with_reducible refine gate_dst (N := 4) rfl ?_); refine box_event ?hg (N := 4) ?hd (cs := #[.int .i64 0, .int .i64 0]) (t := 27) ?hr ?_; (case hd => rfl); (case hg => rfl); (case hr => exact lr); intro gb305 hg w6 hbox hb; have n0_ := Aside0.mk (blk_below (lb BK303.out) hb); have n1_ := Aside0.mk (blk_below (lb BK304.out) hb); have n2_ := Aside0.mk (below_step (lB HB.out) hb); have n3_ := Aside0.mk (hbox); have n4_ := gw hg (lB HB.out); have n5_ := gw hg (lB HB.out); have n6_ := na hg (lb BK303.out); have n7_ := nz hg (lb BK303.out); have n8_ := na hg (lb BK304.out); have n9_ := nz hg (lb BK304.out); clear BK303 BK304 HB; have BK303 := n0_; have BK304 := n1_; have HB := n2_; have BK305 := n3_; have GW305 := n4_; have GE305 := n5_; have NB303_305 := n6_; have NB305_303 := n7_; have NB304_305 := n8_; have NB305_304 := n9_; clear n0_ n1_ n2_ n3_ n4_ n5_ n6_ n7_ n8_ n9_; clear hb hbox hg))
  (try simp only [Act.put, List.setIfInBounds_toArray, List.set_cons_zero, List.set_cons_succ])
  go_cut [13] (fun v13 wc => ∃ (kq : Nat) (x13_2 : Bool), v13 = .bool x13_2 ∧ Aside0 (impl_HalfOf.j0 kq x13_2 a0_0 a0_1 a1_0 a1_1 = some (r1, r2, r3)) ∧ Aside0 (kq ≤ k) ∧ Aside0 (wc.heap[gb303]? = some (.cells #[.int .i64 a0_0, .int .i64 a0_1] 27 (0, 0))) ∧ Aside0 (wc.heap[gb304]? = some (.cells #[.int .i64 a1_0, .int .i64 a1_1] 27 (0, 0))) ∧ Aside0 (wc.heap[gb305]? = some (.cells #[.int .i64 0, .int .i64 0] 27 (0, 0))) ∧ Aside0 (Below w.heap.size w wc))
  case first =>
   have H := HC3.out
   clear HC3
   replace H := Option.bind_eq_some_iff.mp H
   obtain ⟨t306, A70, H⟩ := H
   replace H : (if t306 = true then ((impl_IsFraction.f a1_0 a1_1).bind fun t307 => (impl_HalfOf.j0 k (!t307) a0_0 a0_1 a1_0 a1_1)) else (impl_HalfOf.j0 k true a0_0 a0_1 a1_0 a1_1)) = some (r1, r2, r3) := H
   have A7 := Aside0.mk A70
   clear A70
   by_cases c8 : t306 = true
   rotate_left
   · replace c8 := Bool.eq_false_iff.mpr c8
     subst c8
     rw [if_neg (show ¬ (false = true) by decide)] at H
     have H' := Aside0.mk H
     clear H
     have hnb17 := NB303_304.out
     have hnc17 := NB304_303.out
     have hnb18 := NB303_305.out
     have hnc18 := NB305_303.out
     have hcz19_0 : w6.cell? ⟨gb303, 0, none⟩ = some (.int .i64 a0_0) := (blk_cell BK303.out 0).trans rfl
     have hcz19_1 : w6.cell? ⟨gb303, 1, none⟩ = some (.int .i64 a0_1) := (blk_cell BK303.out 1).trans rfl
     have hfz19_0 := blk_frozen BK303.out 0
     have hfz19_1 := blk_frozen BK303.out 1
     go_wp2_with (first | ((with_reducible refine gate_callee (f := 22) rfl ?_); refine goesL_ (some 7) rfl rfl Tryz.func22 (by kernel_rfl) rfl #[.agg #[.int .i64 a0_0, .int .i64 a0_1]] rfl lm ?_; (with_reducible refine (impl_IsFraction.calls a0_0 a0_1 false _ A7.out).mono ?_); rintro e w20 ⟨rfl, hb⟩; refine ⟨_, rfl, ?_⟩; have n0_ := Aside0.mk (blk_below (lb BK303.out) hb); have n1_ := Aside0.mk (blk_below (lb BK304.out) hb); have n2_ := Aside0.mk (blk_below (lb BK305.out) hb); have n3_ := Aside0.mk (below_step (lB HB.out) hb); clear BK303 BK304 BK305 HB; have BK303 := n0_; have BK304 := n1_; have BK305 := n2_; have HB := n3_; clear n0_ n1_ n2_ n3_; (try clear hb); (try clear hb2); (try clear hk); (try clear hi)))
     go_meet
     case rel => exact ⟨_, (true), (by first | rfl | (simp; done) | (simp [*]; done)), H', ⟨by first | omega | exact Nat.le_refl _⟩, ⟨lb BK303.out⟩, ⟨lb BK304.out⟩, ⟨lb BK305.out⟩, ⟨by exact lB HB.out⟩⟩
   subst c8
   rw [if_pos rfl] at H
   replace H := Option.bind_eq_some_iff.mp H
   obtain ⟨t307, A90, H⟩ := H
   replace H : (impl_HalfOf.j0 k (!t307) a0_0 a0_1 a1_0 a1_1) = some (r1, r2, r3) := H
   have A9 := Aside0.mk A90
   clear A90
   have H' := Aside0.mk H
   clear H
   have hnb10 := NB303_304.out
   have hnc10 := NB304_303.out
   have hnb11 := NB303_305.out
   have hnc11 := NB305_303.out
   have hcz12_0 : w6.cell? ⟨gb303, 0, none⟩ = some (.int .i64 a0_0) := (blk_cell BK303.out 0).trans rfl
   have hcz12_1 : w6.cell? ⟨gb303, 1, none⟩ = some (.int .i64 a0_1) := (blk_cell BK303.out 1).trans rfl
   have hfz12_0 := blk_frozen BK303.out 0
   have hfz12_1 := blk_frozen BK303.out 1
   go_wp2_with (first | ((with_reducible refine gate_callee (f := 22) rfl ?_); refine goesL_ (some 7) rfl rfl Tryz.func22 (by kernel_rfl) rfl #[.agg #[.int .i64 a0_0, .int .i64 a0_1]] rfl lm ?_; (with_reducible refine (impl_IsFraction.calls a0_0 a0_1 true _ A7.out).mono ?_); rintro e w13 ⟨rfl, hb⟩; refine ⟨_, rfl, ?_⟩; have n0_ := Aside0.mk (blk_below (lb BK303.out) hb); have n1_ := Aside0.mk (blk_below (lb BK304.out) hb); have n2_ := Aside0.mk (blk_below (lb BK305.out) hb); have n3_ := Aside0.mk (below_step (lB HB.out) hb); clear BK303 BK304 BK305 HB; have BK303 := n0_; have BK304 := n1_; have BK305 := n2_; have HB := n3_; clear n0_ n1_ n2_ n3_; (try clear hb); (try clear hb2); (try clear hk); (try clear hi); have hnb14 := NB304_305.out; have hnc14 := NB305_304.out; have hcz15_0 : w13.cell? ⟨gb304, 0, none⟩ = some (.int .i64 a1_0) := (blk_cell BK304.out 0).trans rfl; have hcz15_1 : w13.cell? ⟨gb304, 1, none⟩ = some (.int .i64 a1_1) := (blk_cell BK304.out 1).trans rfl; have hfz15_0 := blk_frozen BK304.out 0; have hfz15_1 := blk_frozen BK304.out 1) | (go_at_call 22; (with_reducible refine (impl_IsFraction.calls a1_0 a1_1 t307 _ A9.out).mono ?_); rintro e w16 ⟨rfl, hb⟩; have n0_ := Aside0.mk (blk_below (lb BK303.out) hb); have n1_ := Aside0.mk (blk_below (lb BK304.out) hb); have n2_ := Aside0.mk (blk_below (lb BK305.out) hb); have n3_ := Aside0.mk (below_step (lB HB.out) hb); clear BK303 BK304 BK305 HB; have BK303 := n0_; have BK304 := n1_; have BK305 := n2_; have HB := n3_; clear n0_ n1_ n2_ n3_; (try clear hb); (try clear hb2); (try clear hk); (try clear hi)))
   go_meet
   case rel => exact ⟨_, (!t307), (by first | rfl | (simp; done) | (simp [*]; done)), H', ⟨by first | omega | exact Nat.le_refl _⟩, ⟨lb BK303.out⟩, ⟨lb BK304.out⟩, ⟨lb BK305.out⟩, ⟨by exact lB HB.out⟩⟩
  case rest =>
  clear HC3
  obtain ⟨kq, x13_2, rfl, HA, HJ2, BK303, BK304, BK305, HB⟩ := hcut
  cases kq with
  | zero => exact absurd HA.out (by simp [impl_HalfOf.j0])
  | succ kj2 =>
   have H := HA.out
   clear HA
   simp only [impl_HalfOf.j0] at H
   by_cases c21 : x13_2 = true
   · subst c21
     rw [if_pos rfl] at H
     simp only [Option.some.injEq, Prod.mk.injEq] at H
     obtain ⟨rfl, rfl, rfl⟩ := H
     have hnb22 := NB305_303.out
     have hnc22 := NB303_305.out
     have hnb23 := NB305_304.out
     have hnc23 := NB304_305.out
     have hcz24_0 : wc.cell? ⟨gb305, 0, none⟩ = some (.int .i64 0) := (blk_cell BK305.out 0).trans rfl
     have hcz24_1 : wc.cell? ⟨gb305, 1, none⟩ = some (.int .i64 0) := (blk_cell BK305.out 1).trans rfl
     have hfz24_0 := blk_frozen BK305.out 0
     have hfz24_1 := blk_frozen BK305.out 1
     go_wp2
     refine bodyPost_ret (results_ct rfl _ _ gb305 27 #[.int .i64 0, .int .i64 0] (0, 0) _ rfl (by (with_reducible repeat (first | refine blk_drewN ?_ _ | refine blk_drew ?_ | refine blk_alloc ?_ _)); refine blk_put (cs := #[.int .i64 0, .int .i64 0]) ?_ 1 _ rfl; (with_reducible repeat (first | refine blk_drewN ?_ _ | refine blk_drew ?_ | refine blk_alloc ?_ _)); refine blk_put (cs := #[.int .i64 0, .int .i64 0]) ?_ 0 _ rfl; exact lb BK305.out) Tryz.underlying27 rfl (by kernel_rfl)) rfl ?_
     exact ⟨lx, by exact lB HB.out⟩
   replace c21 := Bool.eq_false_iff.mpr c21
   subst c21
   rw [if_neg (show ¬ (false = true) by decide)] at H
   replace H := Option.bind_eq_some_iff.mp H
   obtain ⟨t308, A250, H⟩ := H
   replace H : ((impl_Fraction_place.f a1_0 a1_1).bind fun t309 => ((impl_toldAt.f (wrap64 (Int.tdiv (wrap64 (t308 + t309)) 2))).bind fun bt310 => (some (bt310.1, bt310.2.1, bt310.2.2)))) = some (r1, r2, r3) := H
   have A25 := Aside0.mk A250
   clear A250
   replace H := Option.bind_eq_some_iff.mp H
   obtain ⟨t309, A260, H⟩ := H
   replace H : ((impl_toldAt.f (wrap64 (Int.tdiv (wrap64 (t308 + t309)) 2))).bind fun bt310 => (some (bt310.1, bt310.2.1, bt310.2.2))) = some (r1, r2, r3) := H
   have A26 := Aside0.mk A260
   clear A260
   replace H := Option.bind_eq_some_iff.mp H
   obtain ⟨⟨t310, t311, t312⟩, A270, H⟩ := H
   replace H : (some (t310, t311, t312)) = some (r1, r2, r3) := H
   have A27 := Aside0.mk A270
   clear A270
   simp only [Option.some.injEq, Prod.mk.injEq] at H
   obtain ⟨rfl, rfl, rfl⟩ := H
   try go_wp2
   have n0_ := Aside0.mk (blk_drew BK303.out)
   have n1_ := Aside0.mk (blk_drew BK304.out)
   have n2_ := Aside0.mk (blk_drew BK305.out)
   have n3_ := Aside0.mk (below_drew1 HB.out)
   clear BK303
   clear BK304
   clear BK305
   clear HB
   have BK303 := n0_
   have BK304 := n1_
   have BK305 := n2_
   have HB := n3_
   clear n0_ n1_ n2_ n3_
   refine start_ (n := 11) (S := fun w' => w'.cell? ⟨gb303, 0, none⟩ = some (.int .i64 a0_0) ∧ w'.cell? ⟨gb303, 1, none⟩ = some (.int .i64 a0_1) ∧ w'.cell? ⟨gb304, 0, none⟩ = some (.int .i64 a1_0) ∧ w'.cell? ⟨gb304, 1, none⟩ = some (.int .i64 a1_1)) (ds := []) #[false, false, false, false, false, false, false, false, false, false, false] (by kernel_rfl) rfl rfl ⟨(blk_cell BK303.out 0).trans rfl, (blk_cell BK303.out 1).trans rfl, (blk_cell BK304.out 0).trans rfl, (blk_cell BK304.out 1).trans rfl⟩ (fun hHeld => ?_); refine with_tabW impl_HalfOf.tab3 impl_HalfOf.bits3 (fun HT_ HW_ => ?_)
   generalize wc.drew = w28 at BK303 BK304 BK305 HB hHeld ⊢
   refine take_ (i := 0) (N := some 15) (v := ?_) (a' := ?_) #[true, false, false, false, false, false, false, false, false, false, false] rfl rfl (take_ofW HT_.out HW_.out (by kernel_rfl)) (fun _ _ _ h => h) (Or.inl ⟨by rfl, ?_⟩) hHeld ?_ ?_
   rotate_left
   · rintro w' ⟨s0, s1, s2, s3⟩
     go_simp
     with_reducible rfl
   rotate_left
   · simp only [Act.put, List.setIfInBounds_toArray, List.set_cons_zero, List.set_cons_succ, i64_w, i32_w]
     rfl
   refine take_ (i := 2) (N := some 17) (v := ?_) (a' := ?_) #[true, false, true, false, false, false, false, false, false, false, false] rfl rfl (take_ofW HT_.out HW_.out (by kernel_rfl)) (fun _ _ _ h => h) (Or.inl ⟨by rfl, ?_⟩) hHeld ?_ ?_
   rotate_left
   · rintro w' ⟨s0, s1, s2, s3⟩
     go_simp
     with_reducible rfl
   rotate_left
   · simp only [Act.put, List.setIfInBounds_toArray, List.set_cons_zero, List.set_cons_succ, i64_w, i32_w]
     rfl
   refine one_ (i := 1) (N := some 16) #[true, true, true, false, false, false, false, false, false, false, false] rfl rfl (one_of HT_.out (by kernel_rfl)) (by decide) (fun K hK => ?_)
   refine goes_ Tryz.func25 (by kernel_rfl) rfl #[.agg #[.int .i64 a0_0, .int .i64 a0_1]] (by rfl) rfl rfl lm ?_
   with_reducible refine (impl_Fraction_place.calls a0_0 a0_1 t308 _ A25.out).mono ?_
   rintro e w29 ⟨rfl, hb⟩
   refine ⟨_, rfl, ?_⟩
   have n0_ := Aside0.mk (blk_below (lb BK303.out) hb)
   have n1_ := Aside0.mk (blk_below (lb BK304.out) hb)
   have n2_ := Aside0.mk (blk_below (lb BK305.out) hb)
   have n3_ := Aside0.mk (below_step (lB HB.out) hb)
   clear BK303
   clear BK304
   clear BK305
   clear HB
   have BK303 := n0_
   have BK304 := n1_
   have BK305 := n2_
   have HB := n3_
   clear n0_ n1_ n2_ n3_
   (try clear hb)
   refine hK.out _ _ ⟨(blk_cell BK303.out 0).trans rfl, (blk_cell BK303.out 1).trans rfl, (blk_cell BK304.out 0).trans rfl, (blk_cell BK304.out 1).trans rfl⟩ (fun hHeld => ?_)
   clear hK K
   refine norm_ (a' := ?_) ?_ ?_
   rotate_left
   · show Act.put _ (some 16) _ = _
     simp only [Act.put, List.setIfInBounds_toArray, List.set_cons_zero, List.set_cons_succ, i64_w, i32_w]
     rfl
   refine one_ (i := 3) (N := some 18) #[true, true, true, true, false, false, false, false, false, false, false] rfl rfl (one_of HT_.out (by kernel_rfl)) (by decide) (fun K hK => ?_)
   refine goes_ Tryz.func25 (by kernel_rfl) rfl #[.agg #[.int .i64 a1_0, .int .i64 a1_1]] (by rfl) rfl rfl lm ?_
   with_reducible refine (impl_Fraction_place.calls a1_0 a1_1 t309 _ A26.out).mono ?_
   rintro e w30 ⟨rfl, hb⟩
   refine ⟨_, rfl, ?_⟩
   have n0_ := Aside0.mk (blk_below (lb BK303.out) hb)
   have n1_ := Aside0.mk (blk_below (lb BK304.out) hb)
   have n2_ := Aside0.mk (blk_below (lb BK305.out) hb)
   have n3_ := Aside0.mk (below_step (lB HB.out) hb)
   clear BK303
   clear BK304
   clear BK305
   clear HB
   have BK303 := n0_
   have BK304 := n1_
   have BK305 := n2_
   have HB := n3_
   clear n0_ n1_ n2_ n3_
   (try clear hb)
   refine hK.out _ _ ⟨(blk_cell BK303.out 0).trans rfl, (blk_cell BK303.out 1).trans rfl, (blk_cell BK304.out 0).trans rfl, (blk_cell BK304.out 1).trans rfl⟩ (fun hHeld => ?_)
   clear hK K
   refine norm_ (a' := ?_) ?_ ?_
   rotate_left
   · show Act.put _ (some 18) _ = _
     simp only [Act.put, List.setIfInBounds_toArray, List.set_cons_zero, List.set_cons_succ, i64_w, i32_w]
     rfl
   refine pure_ (i := 4) (N := some 19) (v := ?_) (a' := ?_) #[true, true, true, true, true, false, false, false, false, false, false] rfl rfl (any_of HT_.out (by kernel_rfl)) (fun _ _ _ h => h) (Or.inl ⟨by rfl, ?_⟩) ?_ ?_
   rotate_left
   · intro w'
     go_simp
     with_reducible rfl
   rotate_left
   · simp only [Act.put, List.setIfInBounds_toArray, List.set_cons_zero, List.set_cons_succ, i64_w, i32_w]
     rfl
   refine pure_ (i := 5) (N := some 20) (v := ?_) (a' := ?_) #[true, true, true, true, true, true, false, false, false, false, false] rfl rfl (any_of HT_.out (by kernel_rfl)) (fun _ _ _ h => h) (Or.inl ⟨by rfl, ?_⟩) ?_ ?_
   rotate_left
   · intro w'
     go_simp
     with_reducible rfl
   rotate_left
   · simp only [Act.put, List.setIfInBounds_toArray, List.set_cons_zero, List.set_cons_succ, i64_w, i32_w]
     rfl
   refine one_ (i := 6) (N := some 21) #[true, true, true, true, true, true, true, false, false, false, false] rfl rfl (one_of HT_.out (by kernel_rfl)) (by decide) (fun K hK => ?_)
   refine goes_ Tryz.func23 (by kernel_rfl) rfl #[.int .i64 (wrap64 (Int.tdiv (wrap64 (t308 + t309)) 2))] (by rfl) rfl rfl lm ?_
   with_reducible refine (impl_toldAt.calls (wrap64 (Int.tdiv (wrap64 (t308 + t309)) 2)) t310 t311 t312 _ A27.out).mono ?_
   rintro e w31 ⟨rfl, hb⟩
   refine ⟨_, rfl, ?_⟩
   have n0_ := Aside0.mk (blk_below (lb BK303.out) hb)
   have n1_ := Aside0.mk (blk_below (lb BK304.out) hb)
   have n2_ := Aside0.mk (blk_below (lb BK305.out) hb)
   have n3_ := Aside0.mk (below_step (lB HB.out) hb)
   clear BK303
   clear BK304
   clear BK305
   clear HB
   have BK303 := n0_
   have BK304 := n1_
   have BK305 := n2_
   have HB := n3_
   clear n0_ n1_ n2_ n3_
   (try clear hb)
   refine hK.out _ _ ⟨(blk_cell BK303.out 0).trans rfl, (blk_cell BK303.out 1).trans rfl, (blk_cell BK304.out 0).trans rfl, (blk_cell BK304.out 1).trans rfl⟩ (fun hHeld => ?_)
   clear hK K
   refine norm_ (a' := ?_) ?_ ?_
   rotate_left
   · show Act.put _ (some 21) _ = _
     simp only [Act.put, List.setIfInBounds_toArray, List.set_cons_zero, List.set_cons_succ, i64_w, i32_w]
     rfl
   refine pure_ (i := 7) (N := some 22) (v := ?_) (a' := ?_) #[true, true, true, true, true, true, true, true, false, false, false] rfl rfl (any_of HT_.out (by kernel_rfl)) (fun _ _ _ h => h) (Or.inl ⟨by rfl, ?_⟩) ?_ ?_
   rotate_left
   · intro w'
     go_simp
     with_reducible rfl
   rotate_left
   · simp only [Act.put, List.setIfInBounds_toArray, List.set_cons_zero, List.set_cons_succ, i64_w, i32_w]
     rfl
   refine pure_ (i := 8) (N := some 23) (v := ?_) (a' := ?_) #[true, true, true, true, true, true, true, true, true, false, false] rfl rfl (any_of HT_.out (by kernel_rfl)) (fun _ _ _ h => h) (Or.inl ⟨by rfl, ?_⟩) ?_ ?_
   rotate_left
   · intro w'
     go_simp
     with_reducible rfl
   rotate_left
   · simp only [Act.put, List.setIfInBounds_toArray, List.set_cons_zero, List.set_cons_succ, i64_w, i32_w]
     rfl
   refine one_ (i := 9) (N := none) #[true, true, true, true, true, true, true, true, true, true, false] rfl rfl (one_of HT_.out (by kernel_rfl)) (by decide) (fun K hK => ?_)
   have hs32 : w31.cell? ⟨gb305, 0, none⟩ = some (.int .i64 0) := (blk_cell BK305.out 0).trans rfl
   have hfs32 := blk_frozen BK305.out 0
   have hns32_0 := NB303_305.out
   have hns32_1 := NB304_305.out
   have hms32_0 := NB305_303.out
   have hms32_1 := NB305_304.out
   have hs33 : w31.cell? ⟨gb305, 1, none⟩ = some (.int .i64 0) := (blk_cell BK305.out 1).trans rfl
   have hfs33 := blk_frozen BK305.out 1
   have hns33_0 := NB303_305.out
   have hns33_1 := NB304_305.out
   have hms33_0 := NB305_303.out
   have hms33_1 := NB305_304.out
   refine skip_ (w1 := ?_) (by rfl) rfl ?_ ?_
   rotate_left
   · go_simp
     rfl
   refine hK.out _ _ ⟨((cell_far (p := ⟨gb305, _, none⟩) NB303_305.out _).trans (((cell_far (p := ⟨gb305, _, none⟩) NB303_305.out _).trans (hHeld.1)))), ((cell_far (p := ⟨gb305, _, none⟩) NB303_305.out _).trans (((cell_far (p := ⟨gb305, _, none⟩) NB303_305.out _).trans (hHeld.2.1)))), ((cell_far (p := ⟨gb305, _, none⟩) NB304_305.out _).trans (((cell_far (p := ⟨gb305, _, none⟩) NB304_305.out _).trans (hHeld.2.2.1)))), ((cell_far (p := ⟨gb305, _, none⟩) NB304_305.out _).trans (((cell_far (p := ⟨gb305, _, none⟩) NB304_305.out _).trans (hHeld.2.2.2))))⟩ (fun hHeld => ?_)
   clear hK K
   refine pure_ (i := 10) (N := some 5) (v := ?_) (a' := ?_) #[true, true, true, true, true, true, true, true, true, true, true] rfl rfl (any_of HT_.out (by kernel_rfl)) (fun _ _ _ h => h) (Or.inl ⟨by rfl, ?_⟩) ?_ ?_
   rotate_left
   · intro w'
     go_simp
     with_reducible rfl
   rotate_left
   · simp only [Act.put, List.setIfInBounds_toArray, List.set_cons_zero, List.set_cons_succ, i64_w, i32_w]
     rfl
   refine done_ (done_of HT_.out (by kernel_rfl)) ?_
   try go_wp2
   refine bodyPost_ret (results_ct rfl _ _ gb305 27 #[.int .i64 t310, .int .i64 t311] (0, 0) _ rfl (by (with_reducible repeat (first | refine blk_drewN ?_ _ | refine blk_drew ?_ | refine blk_alloc ?_ _)); refine blk_put (cs := #[.int .i64 t310, .int .i64 0]) ?_ 1 _ rfl; (with_reducible repeat (first | refine blk_drewN ?_ _ | refine blk_drew ?_ | refine blk_alloc ?_ _)); refine blk_put (cs := #[.int .i64 0, .int .i64 0]) ?_ 0 _ rfl; exact lb BK305.out) Tryz.underlying27 rfl (by kernel_rfl)) rfl ?_
   exact ⟨lx, by exact lB HB.out⟩
def spec_mpIf.f (a0_0 : Int) (a0_1 : Int) : Option (Int × Int × Bool) := (spec_mpGood.f a0_0 a0_1).bind fun t315 => (if t315 = true then (some (a0_0, a0_1, true)) else (some (0, 0, false)))
set_option maxHeartbeats 8000000 in
set_option maxRecDepth 100000 in
theorem spec_mpIf.calls (a0_0 : Int) (a0_1 : Int) (r1 : Int) (r2 : Int) (r3 : Bool) (w : World) (h : spec_mpIf.f a0_0 a0_1 = some (r1, r2, r3)) :
    Calls Tryz.prog 28 #[.agg #[.int .i64 a0_0, .int .i64 a0_1]] w fun e w' => e = .returned (.tuple #[.agg #[.int .i64 r1, .int .i64 r2], .bool r3]) ∧ Below w.heap.size w w' := by
  have hu27 := Tryz.underlying27
  have HB := Aside0.mk (Below.refl w.heap.size w)
  have H : ((spec_mpGood.f a0_0 a0_1).bind fun t315 => (if t315 = true then (some (a0_0, a0_1, true)) else (some (0, 0, false)))) = some (r1, r2, r3) := h
  clear h
  replace H := Option.bind_eq_some_iff.mp H
  obtain ⟨t315, A20, H⟩ := H
  replace H : (if t315 = true then (some (a0_0, a0_1, true)) else (some (0, 0, false))) = some (r1, r2, r3) := H
  have A2 := Aside0.mk A20
  clear A20
  by_cases c3 : t315 = true
  rotate_left
  · replace c3 := Bool.eq_false_iff.mpr c3
    subst c3
    rw [if_neg (show ¬ (false = true) by decide)] at H
    simp only [Option.some.injEq, Prod.mk.injEq] at H
    obtain ⟨rfl, rfl, rfl⟩ := H
    go_enter Tryz.func28, Tryz.ntmps28
    go_wp2_with (first | ((with_reducible refine gate_dst (N := 1) rfl ?_); refine box_event ?hg (N := 1) ?hd (cs := #[.int .i64 a0_0, .int .i64 a0_1]) (t := 27) ?hr ?_; (case hd => rfl); (case hg => rfl); (case hr => exact lr); intro gb313 hg w11 hbox hb; have n0_ := Aside0.mk (below_step (lB HB.out) hb); have n1_ := Aside0.mk (hbox); have n2_ := gw hg (lB HB.out); have n3_ := gw hg (lB HB.out); clear HB; have HB := n0_; have BK313 := n1_; have GW313 := n2_; have GE313 := n3_; clear n0_ n1_ n2_ n3_; clear hb hbox hg) | ((with_reducible refine gate_dst (N := 2) rfl ?_); refine box_event ?hg (N := 2) ?hd (cs := #[.int .i64 0, .int .i64 0]) (t := 27) ?hr ?_; (case hd => rfl); (case hg => rfl); (case hr => exact lr); intro gb314 hg w12 hbox hb; have n0_ := Aside0.mk (blk_below (lb BK313.out) hb); have n1_ := Aside0.mk (below_step (lB HB.out) hb); have n2_ := Aside0.mk (hbox); have n3_ := gw hg (lB HB.out); have n4_ := gw hg (lB HB.out); have n5_ := na hg (lb BK313.out); have n6_ := nz hg (lb BK313.out); clear BK313 HB; have BK313 := n0_; have HB := n1_; have BK314 := n2_; have GW314 := n3_; have GE314 := n4_; have NB313_314 := n5_; have NB314_313 := n6_; clear n0_ n1_ n2_ n3_ n4_ n5_ n6_; clear hb hbox hg; have hnb13 := NB313_314.out; have hnc13 := NB314_313.out; have hcz14_0 : w12.cell? ⟨gb313, 0, none⟩ = some (.int .i64 a0_0) := (blk_cell BK313.out 0).trans rfl; have hcz14_1 : w12.cell? ⟨gb313, 1, none⟩ = some (.int .i64 a0_1) := (blk_cell BK313.out 1).trans rfl; have hfz14_0 := blk_frozen BK313.out 0; have hfz14_1 := blk_frozen BK313.out 1) | ((with_reducible refine gate_callee (f := 27) rfl ?_); refine goesL_ (some 5) rfl rfl Tryz.func27 (by kernel_rfl) rfl #[.agg #[.int .i64 a0_0, .int .i64 a0_1]] rfl lm ?_; (with_reducible refine (spec_mpGood.calls a0_0 a0_1 false _ A2.out).mono ?_); rintro e w15 ⟨rfl, hb⟩; refine ⟨_, rfl, ?_⟩; have n0_ := Aside0.mk (blk_below (lb BK313.out) hb); have n1_ := Aside0.mk (blk_below (lb BK314.out) hb); have n2_ := Aside0.mk (below_step (lB HB.out) hb); clear BK313 BK314 HB; have BK313 := n0_; have BK314 := n1_; have HB := n2_; clear n0_ n1_ n2_; (try clear hb); (try clear hb2); (try clear hk); (try clear hi); have hcz16_0 : w15.cell? ⟨gb314, 0, none⟩ = some (.int .i64 0) := (blk_cell BK314.out 0).trans rfl; have hcz16_1 : w15.cell? ⟨gb314, 1, none⟩ = some (.int .i64 0) := (blk_cell BK314.out 1).trans rfl; have hfz16_0 := blk_frozen BK314.out 0; have hfz16_1 := blk_frozen BK314.out 1))
    refine bodyPost_ret (results_ct rfl _ _ gb314 27 #[.int .i64 0, .int .i64 0] (0, 0) _ rfl (by (with_reducible repeat (first | refine blk_drewN ?_ _ | refine blk_drew ?_ | refine blk_alloc ?_ _)); refine blk_put (cs := #[.int .i64 0, .int .i64 0]) ?_ 1 _ rfl; (with_reducible repeat (first | refine blk_drewN ?_ _ | refine blk_drew ?_ | refine blk_alloc ?_ _)); refine blk_put (cs := #[.int .i64 0, .int .i64 0]) ?_ 0 _ rfl; exact lb BK314.out) Tryz.underlying27 rfl (by kernel_rfl)) rfl ?_
    exact ⟨lx, by exact lB HB.out⟩

  subst c3
  rw [if_pos rfl] at H
  simp only [Option.some.injEq, Prod.mk.injEq] at H
  obtain ⟨rfl, rfl, rfl⟩ := H
  go_enter Tryz.func28, Tryz.ntmps28
  go_wp2_with (first | ((with_reducible refine gate_dst (N := 1) rfl ?_); refine box_event ?hg (N := 1) ?hd (cs := #[.int .i64 a0_0, .int .i64 a0_1]) (t := 27) ?hr ?_; (case hd => rfl); (case hg => rfl); (case hr => exact lr); intro gb313 hg w4 hbox hb; have n0_ := Aside0.mk (below_step (lB HB.out) hb); have n1_ := Aside0.mk (hbox); have n2_ := gw hg (lB HB.out); have n3_ := gw hg (lB HB.out); clear HB; have HB := n0_; have BK313 := n1_; have GW313 := n2_; have GE313 := n3_; clear n0_ n1_ n2_ n3_; clear hb hbox hg) | ((with_reducible refine gate_dst (N := 2) rfl ?_); refine box_event ?hg (N := 2) ?hd (cs := #[.int .i64 0, .int .i64 0]) (t := 27) ?hr ?_; (case hd => rfl); (case hg => rfl); (case hr => exact lr); intro gb314 hg w5 hbox hb; have n0_ := Aside0.mk (blk_below (lb BK313.out) hb); have n1_ := Aside0.mk (below_step (lB HB.out) hb); have n2_ := Aside0.mk (hbox); have n3_ := gw hg (lB HB.out); have n4_ := gw hg (lB HB.out); have n5_ := na hg (lb BK313.out); have n6_ := nz hg (lb BK313.out); clear BK313 HB; have BK313 := n0_; have HB := n1_; have BK314 := n2_; have GW314 := n3_; have GE314 := n4_; have NB313_314 := n5_; have NB314_313 := n6_; clear n0_ n1_ n2_ n3_ n4_ n5_ n6_; clear hb hbox hg; have hnb6 := NB313_314.out; have hnc6 := NB314_313.out; have hcz7_0 : w5.cell? ⟨gb313, 0, none⟩ = some (.int .i64 a0_0) := (blk_cell BK313.out 0).trans rfl; have hcz7_1 : w5.cell? ⟨gb313, 1, none⟩ = some (.int .i64 a0_1) := (blk_cell BK313.out 1).trans rfl; have hfz7_0 := blk_frozen BK313.out 0; have hfz7_1 := blk_frozen BK313.out 1) | ((with_reducible refine gate_callee (f := 27) rfl ?_); refine goesL_ (some 5) rfl rfl Tryz.func27 (by kernel_rfl) rfl #[.agg #[.int .i64 a0_0, .int .i64 a0_1]] rfl lm ?_; (with_reducible refine (spec_mpGood.calls a0_0 a0_1 true _ A2.out).mono ?_); rintro e w8 ⟨rfl, hb⟩; refine ⟨_, rfl, ?_⟩; have n0_ := Aside0.mk (blk_below (lb BK313.out) hb); have n1_ := Aside0.mk (blk_below (lb BK314.out) hb); have n2_ := Aside0.mk (below_step (lB HB.out) hb); clear BK313 BK314 HB; have BK313 := n0_; have BK314 := n1_; have HB := n2_; clear n0_ n1_ n2_; (try clear hb); (try clear hb2); (try clear hk); (try clear hi); have hcz9_0 : w8.cell? ⟨gb313, 0, none⟩ = some (.int .i64 a0_0) := (blk_cell BK313.out 0).trans rfl; have hcz9_1 : w8.cell? ⟨gb313, 1, none⟩ = some (.int .i64 a0_1) := (blk_cell BK313.out 1).trans rfl; have hfz9_0 := blk_frozen BK313.out 0; have hfz9_1 := blk_frozen BK313.out 1; have hcz10_0 : w8.cell? ⟨gb314, 0, none⟩ = some (.int .i64 0) := (blk_cell BK314.out 0).trans rfl; have hcz10_1 : w8.cell? ⟨gb314, 1, none⟩ = some (.int .i64 0) := (blk_cell BK314.out 1).trans rfl; have hfz10_0 := blk_frozen BK314.out 0; have hfz10_1 := blk_frozen BK314.out 1))
  refine bodyPost_ret (results_ct rfl _ _ gb314 27 #[.int .i64 a0_0, .int .i64 a0_1] (0, 0) _ rfl (by (with_reducible repeat (first | refine blk_drewN ?_ _ | refine blk_drew ?_ | refine blk_alloc ?_ _)); refine blk_put (cs := #[.int .i64 a0_0, .int .i64 0]) ?_ 1 _ rfl; (with_reducible repeat (first | refine blk_drewN ?_ _ | refine blk_drew ?_ | refine blk_alloc ?_ _)); refine blk_put (cs := #[.int .i64 0, .int .i64 0]) ?_ 0 _ rfl; exact lb BK314.out) Tryz.underlying27 rfl (by kernel_rfl)) rfl ?_
  exact ⟨lx, by exact lB HB.out⟩
end Go.Proofs.YtgnepbogadfinaaGreatDoor.PA
namespace Go.Proofs.YtgnepbogadfinaaGreatDoor.PA
open Go.RowKit Go.Proofs.YtgnepbogadfinaaGreatDoorW.PrintWords Go.Proofs.YtgnepbogadfinaaGreatDoorW.PrintLast Go.Proofs.YtgnepbogadfinaaGreatDoorW.PrintMore
attribute [local go_sem] max2_int min2_int max_two min_two max_three min_three max_four min_four
def spec_HalfOf.j0 : Nat → Bool → Int → Int → Int → Int → Option (Int × Int × Bool)
  | 0, _, _, _, _, _ => none
  | k + 1, x13, x317000, x317001, x318000, x318001 => if x13 = true then (some (0, 0, false)) else ((spec_mpShort.f k (wrap64 ((wrap64 (x317000 * x318001)) + (wrap64 (x318000 * x317001)))) (wrap64 ((wrap64 (2 * x317001)) * x318001))).bind fun bt321 => ((spec_mpIf.f bt321.1 bt321.2).bind fun bt323 => (some (bt323.1, bt323.2.1, bt323.2.2))))
def spec_HalfOf.f (k : Nat) (a0_0 : Int) (a0_1 : Int) (a1_0 : Int) (a1_1 : Int) : Option (Int × Int × Bool) := (spec_mpGood.f a0_0 a0_1).bind fun t319 => (if t319 = true then ((spec_mpGood.f a1_0 a1_1).bind fun t320 => (spec_HalfOf.j0 k (!t320) a0_0 a0_1 a1_0 a1_1)) else (spec_HalfOf.j0 k true a0_0 a0_1 a1_0 a1_1))
set_option maxHeartbeats 8000000 in
set_option maxRecDepth 100000 in
theorem spec_HalfOf.calls (k : Nat) (a0_0 : Int) (a0_1 : Int) (a1_0 : Int) (a1_1 : Int) (r1 : Int) (r2 : Int) (r3 : Bool) (w : World) (h : spec_HalfOf.f k a0_0 a0_1 a1_0 a1_1 = some (r1, r2, r3)) :
    Calls Tryz.prog 18 #[.agg #[.int .i64 a0_0, .int .i64 a0_1], .agg #[.int .i64 a1_0, .int .i64 a1_1]] w fun e w' => e = .returned (.tuple #[.agg #[.int .i64 r1, .int .i64 r2], .bool r3]) ∧ Below w.heap.size w w' := by
  have hu27 := Tryz.underlying27
  have HB := Aside0.mk (Below.refl w.heap.size w)
  have H : ((spec_mpGood.f a0_0 a0_1).bind fun t319 => (if t319 = true then ((spec_mpGood.f a1_0 a1_1).bind fun t320 => (spec_HalfOf.j0 k (!t320) a0_0 a0_1 a1_0 a1_1)) else (spec_HalfOf.j0 k true a0_0 a0_1 a1_0 a1_1))) = some (r1, r2, r3) := h
  clear h
  have HC3 := Aside0.mk H
  clear H
  go_enter Tryz.func18, Tryz.ntmps18
  go_upto_region 1 with (first | ((with_reducible refine gate_dst (N := 2) rfl ?_); refine box_event ?hg (N := 2) ?hd (cs := #[.int .i64 a0_0, .int .i64 a0_1]) (t := 27) ?hr ?_; (case hd => rfl); (case hg => rfl); (case hr => exact lr); intro gb316 hg w4 hbox hb; have n0_ := Aside0.mk (below_step (lB HB.out) hb); have n1_ := Aside0.mk (hbox); have n2_ := gw hg (lB HB.out); have n3_ := gw hg (lB HB.out); clear HB; have HB := n0_; have BK316 := n1_; have GW316 := n2_; have GE316 := n3_; clear n0_ n1_ n2_ n3_; clear hb hbox hg) | ((with_reducible refine gate_dst (N := 3) rfl ?_); refine box_event ?hg (N := 3) ?hd (cs := #[.int .i64 a1_0, .int .i64 a1_1]) (t := 27) ?hr ?_; (case hd => rfl); (case hg => rfl); (case hr => exact lr); intro gb317 hg w5 hbox hb; have n0_ := Aside0.mk (blk_below (lb BK316.out) hb); have n1_ := Aside0.mk (below_step (lB HB.out) hb); have n2_ := Aside0.mk (hbox); have n3_ := gw hg (lB HB.out); have n4_ := gw hg (lB HB.out); have n5_ := na hg (lb BK316.out); have n6_ := nz hg (lb BK316.out); clear BK316 HB; have BK316 := n0_; have HB := n1_; have BK317 := n2_; have GW317 := n3_; have GE317 := n4_; have NB316_317 := n5_; have NB317_316 := n6_; clear n0_ n1_ n2_ n3_ n4_ n5_ n6_; clear hb hbox hg) | ((with_reducible refine gate_dst (N := 4) rfl ?_); refine box_event ?hg (N := 4) ?hd (cs := #[.int .i64 0, .int .i64 0]) (t := 27) ?hr ?_; (case hd => rfl); (case hg => rfl); (case hr => exact lr); intro gb318 hg w6 hbox hb; have n0_ := Aside0.mk (blk_below (lb BK316.out) hb); have n1_ := Aside0.mk (blk_below (lb BK317.out) hb); have n2_ := Aside0.mk (below_step (lB HB.out) hb); have n3_ := Aside0.mk (hbox); have n4_ := gw hg (lB HB.out); have n5_ := gw hg (lB HB.out); have n6_ := na hg (lb BK316.out); have n7_ := nz hg (lb BK316.out); have n8_ := na hg (lb BK317.out); have n9_ := nz hg (lb BK317.out); clear BK316 BK317 HB; have BK316 := n0_; have BK317 := n1_; have HB := n2_; have BK318 := n3_; have GW318 := n4_; have GE318 := n5_; have NB316_318 := n6_; have NB318_316 := n7_; have NB317_318 := n8_; have NB318_317 := n9_; clear n0_ n1_ n2_ n3_ n4_ n5_ n6_ n7_ n8_ n9_; clear hb hbox hg))
  (try simp only [Act.put, List.setIfInBounds_toArray, List.set_cons_zero, List.set_cons_succ])
  go_cut [13] (fun v13 wc => ∃ (kq : Nat) (x13_2 : Bool), v13 = .bool x13_2 ∧ Aside0 (spec_HalfOf.j0 kq x13_2 a0_0 a0_1 a1_0 a1_1 = some (r1, r2, r3)) ∧ Aside0 (kq ≤ k) ∧ Aside0 (wc.heap[gb316]? = some (.cells #[.int .i64 a0_0, .int .i64 a0_1] 27 (0, 0))) ∧ Aside0 (wc.heap[gb317]? = some (.cells #[.int .i64 a1_0, .int .i64 a1_1] 27 (0, 0))) ∧ Aside0 (wc.heap[gb318]? = some (.cells #[.int .i64 0, .int .i64 0] 27 (0, 0))) ∧ Aside0 (Below w.heap.size w wc))
  case first =>
   have H := HC3.out
   clear HC3
   replace H := Option.bind_eq_some_iff.mp H
   obtain ⟨t319, A70, H⟩ := H
   replace H : (if t319 = true then ((spec_mpGood.f a1_0 a1_1).bind fun t320 => (spec_HalfOf.j0 k (!t320) a0_0 a0_1 a1_0 a1_1)) else (spec_HalfOf.j0 k true a0_0 a0_1 a1_0 a1_1)) = some (r1, r2, r3) := H
   have A7 := Aside0.mk A70
   clear A70
   by_cases c8 : t319 = true
   rotate_left
   · replace c8 := Bool.eq_false_iff.mpr c8
     subst c8
     rw [if_neg (show ¬ (false = true) by decide)] at H
     have H' := Aside0.mk H
     clear H
     have hnb17 := NB316_317.out
     have hnc17 := NB317_316.out
     have hnb18 := NB316_318.out
     have hnc18 := NB318_316.out
     have hcz19_0 : w6.cell? ⟨gb316, 0, none⟩ = some (.int .i64 a0_0) := (blk_cell BK316.out 0).trans rfl
     have hcz19_1 : w6.cell? ⟨gb316, 1, none⟩ = some (.int .i64 a0_1) := (blk_cell BK316.out 1).trans rfl
     have hfz19_0 := blk_frozen BK316.out 0
     have hfz19_1 := blk_frozen BK316.out 1
     go_wp2_with (first | ((with_reducible refine gate_callee (f := 27) rfl ?_); refine goesL_ (some 7) rfl rfl Tryz.func27 (by kernel_rfl) rfl #[.agg #[.int .i64 a0_0, .int .i64 a0_1]] rfl lm ?_; (with_reducible refine (spec_mpGood.calls a0_0 a0_1 false _ A7.out).mono ?_); rintro e w20 ⟨rfl, hb⟩; refine ⟨_, rfl, ?_⟩; have n0_ := Aside0.mk (blk_below (lb BK316.out) hb); have n1_ := Aside0.mk (blk_below (lb BK317.out) hb); have n2_ := Aside0.mk (blk_below (lb BK318.out) hb); have n3_ := Aside0.mk (below_step (lB HB.out) hb); clear BK316 BK317 BK318 HB; have BK316 := n0_; have BK317 := n1_; have BK318 := n2_; have HB := n3_; clear n0_ n1_ n2_ n3_; (try clear hb); (try clear hb2); (try clear hk); (try clear hi)))
     go_meet
     case rel => exact ⟨_, (true), (by first | rfl | (simp; done) | (simp [*]; done)), H', ⟨by first | omega | exact Nat.le_refl _⟩, ⟨lb BK316.out⟩, ⟨lb BK317.out⟩, ⟨lb BK318.out⟩, ⟨by exact lB HB.out⟩⟩
   subst c8
   rw [if_pos rfl] at H
   replace H := Option.bind_eq_some_iff.mp H
   obtain ⟨t320, A90, H⟩ := H
   replace H : (spec_HalfOf.j0 k (!t320) a0_0 a0_1 a1_0 a1_1) = some (r1, r2, r3) := H
   have A9 := Aside0.mk A90
   clear A90
   have H' := Aside0.mk H
   clear H
   have hnb10 := NB316_317.out
   have hnc10 := NB317_316.out
   have hnb11 := NB316_318.out
   have hnc11 := NB318_316.out
   have hcz12_0 : w6.cell? ⟨gb316, 0, none⟩ = some (.int .i64 a0_0) := (blk_cell BK316.out 0).trans rfl
   have hcz12_1 : w6.cell? ⟨gb316, 1, none⟩ = some (.int .i64 a0_1) := (blk_cell BK316.out 1).trans rfl
   have hfz12_0 := blk_frozen BK316.out 0
   have hfz12_1 := blk_frozen BK316.out 1
   go_wp2_with (first | ((with_reducible refine gate_callee (f := 27) rfl ?_); refine goesL_ (some 7) rfl rfl Tryz.func27 (by kernel_rfl) rfl #[.agg #[.int .i64 a0_0, .int .i64 a0_1]] rfl lm ?_; (with_reducible refine (spec_mpGood.calls a0_0 a0_1 true _ A7.out).mono ?_); rintro e w13 ⟨rfl, hb⟩; refine ⟨_, rfl, ?_⟩; have n0_ := Aside0.mk (blk_below (lb BK316.out) hb); have n1_ := Aside0.mk (blk_below (lb BK317.out) hb); have n2_ := Aside0.mk (blk_below (lb BK318.out) hb); have n3_ := Aside0.mk (below_step (lB HB.out) hb); clear BK316 BK317 BK318 HB; have BK316 := n0_; have BK317 := n1_; have BK318 := n2_; have HB := n3_; clear n0_ n1_ n2_ n3_; (try clear hb); (try clear hb2); (try clear hk); (try clear hi); have hnb14 := NB317_318.out; have hnc14 := NB318_317.out; have hcz15_0 : w13.cell? ⟨gb317, 0, none⟩ = some (.int .i64 a1_0) := (blk_cell BK317.out 0).trans rfl; have hcz15_1 : w13.cell? ⟨gb317, 1, none⟩ = some (.int .i64 a1_1) := (blk_cell BK317.out 1).trans rfl; have hfz15_0 := blk_frozen BK317.out 0; have hfz15_1 := blk_frozen BK317.out 1) | (go_at_call 27; (with_reducible refine (spec_mpGood.calls a1_0 a1_1 t320 _ A9.out).mono ?_); rintro e w16 ⟨rfl, hb⟩; have n0_ := Aside0.mk (blk_below (lb BK316.out) hb); have n1_ := Aside0.mk (blk_below (lb BK317.out) hb); have n2_ := Aside0.mk (blk_below (lb BK318.out) hb); have n3_ := Aside0.mk (below_step (lB HB.out) hb); clear BK316 BK317 BK318 HB; have BK316 := n0_; have BK317 := n1_; have BK318 := n2_; have HB := n3_; clear n0_ n1_ n2_ n3_; (try clear hb); (try clear hb2); (try clear hk); (try clear hi)))
   go_meet
   case rel => exact ⟨_, (!t320), (by first | rfl | (simp; done) | (simp [*]; done)), H', ⟨by first | omega | exact Nat.le_refl _⟩, ⟨lb BK316.out⟩, ⟨lb BK317.out⟩, ⟨lb BK318.out⟩, ⟨by exact lB HB.out⟩⟩
  case rest =>
  clear HC3
  obtain ⟨kq, x13_2, rfl, HA, HJ2, BK316, BK317, BK318, HB⟩ := hcut
  cases kq with
  | zero => exact absurd HA.out (by simp [spec_HalfOf.j0])
  | succ kj2 =>
   have H := HA.out
   clear HA
   simp only [spec_HalfOf.j0] at H
   by_cases c21 : x13_2 = true
   · subst c21
     rw [if_pos rfl] at H
     simp only [Option.some.injEq, Prod.mk.injEq] at H
     obtain ⟨rfl, rfl, rfl⟩ := H
     have hnb22 := NB318_316.out
     have hnc22 := NB316_318.out
     have hnb23 := NB318_317.out
     have hnc23 := NB317_318.out
     have hcz24_0 : wc.cell? ⟨gb318, 0, none⟩ = some (.int .i64 0) := (blk_cell BK318.out 0).trans rfl
     have hcz24_1 : wc.cell? ⟨gb318, 1, none⟩ = some (.int .i64 0) := (blk_cell BK318.out 1).trans rfl
     have hfz24_0 := blk_frozen BK318.out 0
     have hfz24_1 := blk_frozen BK318.out 1
     go_wp2
     refine bodyPost_ret (results_ct rfl _ _ gb318 27 #[.int .i64 0, .int .i64 0] (0, 0) _ rfl (by (with_reducible repeat (first | refine blk_drewN ?_ _ | refine blk_drew ?_ | refine blk_alloc ?_ _)); refine blk_put (cs := #[.int .i64 0, .int .i64 0]) ?_ 1 _ rfl; (with_reducible repeat (first | refine blk_drewN ?_ _ | refine blk_drew ?_ | refine blk_alloc ?_ _)); refine blk_put (cs := #[.int .i64 0, .int .i64 0]) ?_ 0 _ rfl; exact lb BK318.out) Tryz.underlying27 rfl (by kernel_rfl)) rfl ?_
     exact ⟨lx, by exact lB HB.out⟩
   replace c21 := Bool.eq_false_iff.mpr c21
   subst c21
   rw [if_neg (show ¬ (false = true) by decide)] at H
   replace H := Option.bind_eq_some_iff.mp H
   obtain ⟨⟨t321, t322⟩, A250, H⟩ := H
   replace H : ((spec_mpIf.f t321 t322).bind fun bt323 => (some (bt323.1, bt323.2.1, bt323.2.2))) = some (r1, r2, r3) := H
   have A25 := Aside0.mk A250
   clear A250
   replace H := Option.bind_eq_some_iff.mp H
   obtain ⟨⟨t323, t324, t325⟩, A260, H⟩ := H
   replace H : (some (t323, t324, t325)) = some (r1, r2, r3) := H
   have A26 := Aside0.mk A260
   clear A260
   simp only [Option.some.injEq, Prod.mk.injEq] at H
   obtain ⟨rfl, rfl, rfl⟩ := H
   have hnb27 := NB316_317.out
   have hnc27 := NB317_316.out
   have hnb28 := NB316_318.out
   have hnc28 := NB318_316.out
   have hcz29_0 : wc.cell? ⟨gb316, 0, none⟩ = some (.int .i64 a0_0) := (blk_cell BK316.out 0).trans rfl
   have hcz29_1 : wc.cell? ⟨gb316, 1, none⟩ = some (.int .i64 a0_1) := (blk_cell BK316.out 1).trans rfl
   have hfz29_0 := blk_frozen BK316.out 0
   have hfz29_1 := blk_frozen BK316.out 1
   have hnb30 := NB317_318.out
   have hnc30 := NB318_317.out
   have hcz31_0 : wc.cell? ⟨gb317, 0, none⟩ = some (.int .i64 a1_0) := (blk_cell BK317.out 0).trans rfl
   have hcz31_1 : wc.cell? ⟨gb317, 1, none⟩ = some (.int .i64 a1_1) := (blk_cell BK317.out 1).trans rfl
   have hfz31_0 := blk_frozen BK317.out 0
   have hfz31_1 := blk_frozen BK317.out 1
   go_wp2_with (first | ((with_reducible refine gate_callee (f := 45) rfl ?_); refine goesL_ (some 32) rfl rfl Tryz.func45 (by kernel_rfl) rfl #[.int .i64 (wrap64 ((wrap64 (a0_0 * a1_1)) + (wrap64 (a1_0 * a0_1)))), .int .i64 (wrap64 ((wrap64 (2 * a0_1)) * a1_1))] rfl lm ?_; (with_reducible refine (spec_mpShort.calls kj2 (wrap64 ((wrap64 (a0_0 * a1_1)) + (wrap64 (a1_0 * a0_1)))) (wrap64 ((wrap64 (2 * a0_1)) * a1_1)) t321 t322 _ A25.out).mono ?_); rintro e w32 ⟨rfl, hb⟩; refine ⟨_, rfl, ?_⟩; have n0_ := Aside0.mk (blk_below (lb BK316.out) hb); have n1_ := Aside0.mk (blk_below (lb BK317.out) hb); have n2_ := Aside0.mk (blk_below (lb BK318.out) hb); have n3_ := Aside0.mk (below_step (lB HB.out) hb); clear BK316 BK317 BK318 HB; have BK316 := n0_; have BK317 := n1_; have BK318 := n2_; have HB := n3_; clear n0_ n1_ n2_ n3_; (try clear hb); (try clear hb2); (try clear hk); (try clear hi)) | ((with_reducible refine gate_callee (f := 28) rfl ?_); refine goesL_ (some 33) rfl rfl Tryz.func28 (by kernel_rfl) rfl #[.agg #[.int .i64 t321, .int .i64 t322]] rfl lm ?_; (with_reducible refine (spec_mpIf.calls t321 t322 t323 t324 t325 _ A26.out).mono ?_); rintro e w33 ⟨rfl, hb⟩; refine ⟨_, rfl, ?_⟩; have n0_ := Aside0.mk (blk_below (lb BK316.out) hb); have n1_ := Aside0.mk (blk_below (lb BK317.out) hb); have n2_ := Aside0.mk (blk_below (lb BK318.out) hb); have n3_ := Aside0.mk (below_step (lB HB.out) hb); clear BK316 BK317 BK318 HB; have BK316 := n0_; have BK317 := n1_; have BK318 := n2_; have HB := n3_; clear n0_ n1_ n2_ n3_; (try clear hb); (try clear hb2); (try clear hk); (try clear hi); have hcz34_0 : w33.cell? ⟨gb318, 0, none⟩ = some (.int .i64 0) := (blk_cell BK318.out 0).trans rfl; have hcz34_1 : w33.cell? ⟨gb318, 1, none⟩ = some (.int .i64 0) := (blk_cell BK318.out 1).trans rfl; have hfz34_0 := blk_frozen BK318.out 0; have hfz34_1 := blk_frozen BK318.out 1))
   refine bodyPost_ret (results_ct rfl _ _ gb318 27 #[.int .i64 t323, .int .i64 t324] (0, 0) _ rfl (by (with_reducible repeat (first | refine blk_drewN ?_ _ | refine blk_drew ?_ | refine blk_alloc ?_ _)); refine blk_put (cs := #[.int .i64 t323, .int .i64 0]) ?_ 1 _ rfl; (with_reducible repeat (first | refine blk_drewN ?_ _ | refine blk_drew ?_ | refine blk_alloc ?_ _)); refine blk_put (cs := #[.int .i64 0, .int .i64 0]) ?_ 0 _ rfl; exact lb BK318.out) Tryz.underlying27 rfl (by kernel_rfl)) rfl ?_
   exact ⟨lx, by exact lB HB.out⟩
end Go.Proofs.YtgnepbogadfinaaGreatDoor.PA
