import Derived.Test.YtijnadjgmmednaaXr22
import Derived.Test.YtijnadjgmmednaaXr26
/- A part of the proof: lemmas that later parts use. -/
set_option linter.unusedVariables false
set_option linter.unusedSimpArgs false
namespace Go.Proofs.Ytijnadjgmmednaa.PA
open Go.RowKit Go.Proofs.YtijnadjgmmednaaW.PrintWords Go.Proofs.YtijnadjgmmednaaW.PrintLast Go.Proofs.YtijnadjgmmednaaW.PrintMore
attribute [local go_sem] max2_int min2_int max_two min_two max_three min_three max_four min_four
mutual
def spec_RotationDistance.j0 : Nat → ByteArray → ByteArray → Bool → Option (Int × Bool)
  | 0, _, _, _ => none
  | k + 1, x0, x1, x22 => if x22 = true then (some (0, false)) else (spec_RotationDistance.l0 k x1 (([x0] : List ByteArray)) (([x0] : List ByteArray)) 0)
def spec_RotationDistance.l0 : Nat → ByteArray → List ByteArray → List ByteArray → Int → Option (Int × Bool)
  | 0, _, _, _, _ => none
  | k + 1, x1, x6, x7, x8 => if (x7.length : Int) > 0 then ((spec_brHas.f k x7 x1).bind fun t206 => (if t206 = true then (some (x8, true)) else (spec_RotationDistance.l1 k x1 x6 x8 ([] : List ByteArray) x7 (x7.length : Int) 0))) else (some (0, false))
def spec_RotationDistance.l1 : Nat → ByteArray → List ByteArray → Int → List ByteArray → List ByteArray → Int → Int → Option (Int × Bool)
  | 0, _, _, _, _, _, _, _ => none
  | k + 1, x1, x6, x8, x9, x36, x37, x38 => if x38 < x37 then (if 0 ≤ x38 then (if x38 < (x36.length : Int) then ((spec_brNear.f (rdOf ByteArray.empty x36 x38)).bind fun t208 => (spec_RotationDistance.l2 k x1 x6 x8 x9 x36 x37 x38 t208 (t208.length : Int) 0)) else (none)) else (none)) else (spec_RotationDistance.l0 k x1 x6 x9 (wrap64 (x8 + 1)))
def spec_RotationDistance.l2 : Nat → ByteArray → List ByteArray → Int → List ByteArray → List ByteArray → Int → Int → List ByteArray → Int → Int → Option (Int × Bool)
  | 0, _, _, _, _, _, _, _, _, _, _ => none
  | k + 1, x1, x6, x8, x9, x36, x37, x38, x43, x44, x45 => if x45 < x44 then (if 0 ≤ x45 then (if x45 < (x43.length : Int) then ((spec_brHas.f k x6 (rdOf ByteArray.empty x43 x45)).bind fun t212 => (if t212 = true then (spec_RotationDistance.l2 k x1 x6 x8 x9 x36 x37 x38 x43 x44 (wrap64 (x45 + 1))) else (if x6.length < 8796093022208 then (if x9.length < 8796093022208 then (spec_RotationDistance.l2 k x1 (x6 ++ [rdOf ByteArray.empty x43 x45]) x8 (x9 ++ [rdOf ByteArray.empty x43 x45]) x36 x37 x38 x43 x44 (wrap64 (x45 + 1))) else (none)) else (none)))) else (none)) else (none)) else (spec_RotationDistance.l1 k x1 x6 x8 x9 x36 x37 (wrap64 (x38 + 1)))
end
def spec_RotationDistance.f (k : Nat) (a0 : ByteArray) (a1 : ByteArray) : Option (Int × Bool) := (spec_brBoth.f a0 a1).bind fun t198 => (if t198 = true then ((spec_trCarets.f a0).bind fun t199 => (spec_RotationDistance.j0 k a0 a1 (decide (t199 > 5)))) else (spec_RotationDistance.j0 k a0 a1 true))
theorem spec_RotationDistance.mono_l : ∀ k, (∀ y0 y1 y2, LeO (spec_RotationDistance.j0 k y0 y1 y2) (spec_RotationDistance.j0 (k + 1) y0 y1 y2)) ∧ (∀ y0 y1 y2 y3, LeO (spec_RotationDistance.l0 k y0 y1 y2 y3) (spec_RotationDistance.l0 (k + 1) y0 y1 y2 y3)) ∧ (∀ y0 y1 y2 y3 y4 y5 y6, LeO (spec_RotationDistance.l1 k y0 y1 y2 y3 y4 y5 y6) (spec_RotationDistance.l1 (k + 1) y0 y1 y2 y3 y4 y5 y6)) ∧ (∀ y0 y1 y2 y3 y4 y5 y6 y7 y8 y9, LeO (spec_RotationDistance.l2 k y0 y1 y2 y3 y4 y5 y6 y7 y8 y9) (spec_RotationDistance.l2 (k + 1) y0 y1 y2 y3 y4 y5 y6 y7 y8 y9))
  | 0 => ⟨fun _ _ _ r h => by simp [spec_RotationDistance.j0] at h, fun _ _ _ _ r h => by simp [spec_RotationDistance.l0] at h, fun _ _ _ _ _ _ _ r h => by simp [spec_RotationDistance.l1] at h, fun _ _ _ _ _ _ _ _ _ _ r h => by simp [spec_RotationDistance.l2] at h⟩
  | k + 1 => by
    obtain ⟨ih0, ih1, ih2, ih3⟩ := spec_RotationDistance.mono_l k
    refine ⟨?_, ?_, ?_, ?_⟩
    · intro y0 y1 y2
      unfold spec_RotationDistance.j0
      repeat' first
      | (with_reducible exact ih0 _ _ _)
      | (with_reducible exact ih1 _ _ _ _)
      | (with_reducible exact ih2 _ _ _ _ _ _ _)
      | (with_reducible exact ih3 _ _ _ _ _ _ _ _ _ _)
      | (with_reducible exact spec_brHas.mono _ _ _)
      | (with_reducible exact LeO.refl _)
      | (with_reducible exact LeO.none _)
      | (with_reducible refine LeO.ite ?_ ?_)
      | (with_reducible refine LeO.bind ?_ (fun _ => ?_))
      | exact ih0 _ _ _
      | exact ih1 _ _ _ _
      | exact ih2 _ _ _ _ _ _ _
      | exact ih3 _ _ _ _ _ _ _ _ _ _
      | exact spec_brHas.mono _ _ _
      | exact LeO.none _
      | refine LeO.ite ?_ ?_
      | refine LeO.bind ?_ (fun _ => ?_)
    · intro y0 y1 y2 y3
      unfold spec_RotationDistance.l0
      repeat' first
      | (with_reducible exact ih0 _ _ _)
      | (with_reducible exact ih1 _ _ _ _)
      | (with_reducible exact ih2 _ _ _ _ _ _ _)
      | (with_reducible exact ih3 _ _ _ _ _ _ _ _ _ _)
      | (with_reducible exact spec_brHas.mono _ _ _)
      | (with_reducible exact LeO.refl _)
      | (with_reducible exact LeO.none _)
      | (with_reducible refine LeO.ite ?_ ?_)
      | (with_reducible refine LeO.bind ?_ (fun _ => ?_))
      | exact ih0 _ _ _
      | exact ih1 _ _ _ _
      | exact ih2 _ _ _ _ _ _ _
      | exact ih3 _ _ _ _ _ _ _ _ _ _
      | exact spec_brHas.mono _ _ _
      | exact LeO.none _
      | refine LeO.ite ?_ ?_
      | refine LeO.bind ?_ (fun _ => ?_)
    · intro y0 y1 y2 y3 y4 y5 y6
      unfold spec_RotationDistance.l1
      repeat' first
      | (with_reducible exact ih0 _ _ _)
      | (with_reducible exact ih1 _ _ _ _)
      | (with_reducible exact ih2 _ _ _ _ _ _ _)
      | (with_reducible exact ih3 _ _ _ _ _ _ _ _ _ _)
      | (with_reducible exact spec_brHas.mono _ _ _)
      | (with_reducible exact LeO.refl _)
      | (with_reducible exact LeO.none _)
      | (with_reducible refine LeO.ite ?_ ?_)
      | (with_reducible refine LeO.bind ?_ (fun _ => ?_))
      | exact ih0 _ _ _
      | exact ih1 _ _ _ _
      | exact ih2 _ _ _ _ _ _ _
      | exact ih3 _ _ _ _ _ _ _ _ _ _
      | exact spec_brHas.mono _ _ _
      | exact LeO.none _
      | refine LeO.ite ?_ ?_
      | refine LeO.bind ?_ (fun _ => ?_)
    · intro y0 y1 y2 y3 y4 y5 y6 y7 y8 y9
      unfold spec_RotationDistance.l2
      repeat' first
      | (with_reducible exact ih0 _ _ _)
      | (with_reducible exact ih1 _ _ _ _)
      | (with_reducible exact ih2 _ _ _ _ _ _ _)
      | (with_reducible exact ih3 _ _ _ _ _ _ _ _ _ _)
      | (with_reducible exact spec_brHas.mono _ _ _)
      | (with_reducible exact LeO.refl _)
      | (with_reducible exact LeO.none _)
      | (with_reducible refine LeO.ite ?_ ?_)
      | (with_reducible refine LeO.bind ?_ (fun _ => ?_))
      | exact ih0 _ _ _
      | exact ih1 _ _ _ _
      | exact ih2 _ _ _ _ _ _ _
      | exact ih3 _ _ _ _ _ _ _ _ _ _
      | exact spec_brHas.mono _ _ _
      | exact LeO.none _
      | refine LeO.ite ?_ ?_
      | refine LeO.bind ?_ (fun _ => ?_)
theorem spec_RotationDistance.mono : ∀ a0 a1 k, LeO (spec_RotationDistance.f k a0 a1) (spec_RotationDistance.f (k + 1) a0 a1) := by
  intro a0 a1 k
  obtain ⟨ih0, ih1, ih2, ih3⟩ := spec_RotationDistance.mono_l k
  unfold spec_RotationDistance.f
  repeat' first
      | (with_reducible exact ih0 _ _ _)
      | (with_reducible exact ih1 _ _ _ _)
      | (with_reducible exact ih2 _ _ _ _ _ _ _)
      | (with_reducible exact ih3 _ _ _ _ _ _ _ _ _ _)
      | (with_reducible exact spec_brHas.mono _ _ _)
      | (with_reducible exact LeO.refl _)
      | (with_reducible exact LeO.none _)
      | (with_reducible refine LeO.ite ?_ ?_)
      | (with_reducible refine LeO.bind ?_ (fun _ => ?_))
      | exact ih0 _ _ _
      | exact ih1 _ _ _ _
      | exact ih2 _ _ _ _ _ _ _
      | exact ih3 _ _ _ _ _ _ _ _ _ _
      | exact spec_brHas.mono _ _ _
      | exact LeO.none _
      | refine LeO.ite ?_ ?_
      | refine LeO.bind ?_ (fun _ => ?_)
set_option maxHeartbeats 8000000 in
set_option maxRecDepth 100000 in
theorem spec_RotationDistance.calls (k : Nat) (a0 : ByteArray) (a1 : ByteArray) (r1 : Int) (r2 : Bool) (w : World) (h : spec_RotationDistance.f k a0 a1 = some (r1, r2)) :
    Calls Try.prog 40 #[.string a0, .string a1] w fun e w' => e = .returned (.tuple #[.int .i64 r1, .bool r2]) ∧ Below w.heap.size w w' := by
  have HB := Aside0.mk (Below.refl w.heap.size w)
  have H : ((spec_brBoth.f a0 a1).bind fun t198 => (if t198 = true then ((spec_trCarets.f a0).bind fun t199 => (spec_RotationDistance.j0 k a0 a1 (decide (t199 > 5)))) else (spec_RotationDistance.j0 k a0 a1 true))) = some (r1, r2) := h
  clear h
  have HC3 := Aside0.mk H
  clear H
  go_enter Try.func40, Try.ntmps40
  go_upto_region 1 with (fail)
  go_cut [22] (fun v22 wc => ∃ (kq : Nat) (x22_2 : Bool), v22 = .bool x22_2 ∧ Aside0 (spec_RotationDistance.j0 kq a0 a1 x22_2 = some (r1, r2)) ∧ Aside0 (kq ≤ k) ∧ Aside0 (Below w.heap.size w wc))
  case first =>
   have H := HC3.out
   clear HC3
   replace H := Option.bind_eq_some_iff.mp H
   obtain ⟨t198, A40, H⟩ := H
   replace H : (if t198 = true then ((spec_trCarets.f a0).bind fun t199 => (spec_RotationDistance.j0 k a0 a1 (decide (t199 > 5)))) else (spec_RotationDistance.j0 k a0 a1 true)) = some (r1, r2) := H
   have A4 := Aside0.mk A40
   clear A40
   by_cases c5 : t198 = true
   rotate_left
   · replace c5 := Bool.eq_false_iff.mpr c5
     subst c5
     rw [if_neg (show ¬ (false = true) by decide)] at H
     have H' := Aside0.mk H
     clear H
     go_wp2_with (first | ((with_reducible refine gate_callee (f := 99) rfl ?_); refine goesL_ (some 16) rfl rfl Try.func99 (by kernel_rfl) rfl #[.string a0, .string a1] rfl lm ?_; (with_reducible refine (spec_brBoth.calls a0 a1 false _ A4.out).mono ?_); rintro e w8 ⟨rfl, hb⟩; refine ⟨_, rfl, ?_⟩; have n0_ := Aside0.mk (below_step (lB HB.out) hb); clear HB; have HB := n0_; clear n0_; (try clear hb); (try clear hb2); (try clear hk); (try clear hi)))
     go_meet
     case rel => exact ⟨_, (true), (by first | rfl | (simp; done) | (simp [*]; done)), H', ⟨by first | omega | exact Nat.le_refl _⟩, ⟨by exact lB HB.out⟩⟩
   subst c5
   rw [if_pos rfl] at H
   replace H := Option.bind_eq_some_iff.mp H
   obtain ⟨t199, A60, H⟩ := H
   replace H : (spec_RotationDistance.j0 k a0 a1 (decide (t199 > 5))) = some (r1, r2) := H
   have A6 := Aside0.mk A60
   clear A60
   have H' := Aside0.mk H
   clear H
   go_wp2_with (first | ((with_reducible refine gate_callee (f := 99) rfl ?_); refine goesL_ (some 16) rfl rfl Try.func99 (by kernel_rfl) rfl #[.string a0, .string a1] rfl lm ?_; (with_reducible refine (spec_brBoth.calls a0 a1 true _ A4.out).mono ?_); rintro e w7 ⟨rfl, hb⟩; refine ⟨_, rfl, ?_⟩; have n0_ := Aside0.mk (below_step (lB HB.out) hb); clear HB; have HB := n0_; clear n0_; (try clear hb); (try clear hb2); (try clear hk); (try clear hi)) | (go_at_call 86; (with_reducible refine (spec_trCarets.calls a0 t199 _ A6.out).mono ?_); rintro e w' ⟨rfl, ⟨nd, rfl⟩⟩))
   go_meet
   case rel => exact ⟨_, (decide (t199 > 5)), (by first | rfl | (simp; done) | (simp [*]; done)), H', ⟨by first | omega | exact Nat.le_refl _⟩, ⟨by exact lB HB.out⟩⟩
  case rest =>
  clear HC3
  obtain ⟨kq, x22_2, rfl, HA, HJ2, HB⟩ := hcut
  cases kq with
  | zero => exact absurd HA.out (by simp [spec_RotationDistance.j0])
  | succ kj2 =>
   have H := HA.out
   clear HA
   simp only [spec_RotationDistance.j0] at H
   by_cases c9 : x22_2 = true
   · subst c9
     rw [if_pos rfl] at H
     simp only [Option.some.injEq, Prod.mk.injEq] at H
     obtain ⟨rfl, rfl⟩ := H
     go_wp2
     go_ret2
     exact ⟨by first | rfl | (simp [errW_none, errW_some] <;> rfl) | (simp [*, errW_none, errW_some] <;> rfl), by exact lB HB.out⟩
   replace c9 := Bool.eq_false_iff.mpr c9
   subst c9
   rw [if_neg (show ¬ (false = true) by decide)] at H
   obtain ⟨y200, hy200⟩ : ∃ y_ : List ByteArray, y_ = (([a0] : List ByteArray)) := ⟨_, rfl⟩
   replace H : (spec_RotationDistance.l0 kj2 a1 y200 (([a0] : List ByteArray)) 0) = some (r1, r2) := by first | (rw [hy200]; with_reducible exact H) | (have H2_ := (Option.bind_some _ _).symm.trans H; rw [hy200]; with_reducible exact H2_) | (have H2_ := (Option.bind_some _ _).symm.trans H; with_reducible exact H2_) | with_reducible exact H | (rw [hy200]; exact H) | exact H
   have Ny200 := Aside0.mk hy200
   clear hy200
   obtain ⟨y203, hy203⟩ : ∃ y_ : List ByteArray, y_ = (([a0] : List ByteArray)) := ⟨_, rfl⟩
   replace H : (spec_RotationDistance.l0 kj2 a1 y200 y203 0) = some (r1, r2) := by first | (rw [hy203]; with_reducible exact H) | (have H2_ := (Option.bind_some _ _).symm.trans H; rw [hy203]; with_reducible exact H2_) | (have H2_ := (Option.bind_some _ _).symm.trans H; with_reducible exact H2_) | with_reducible exact H | (rw [hy203]; exact H) | exact H
   have Ny203 := Aside0.mk hy203
   clear hy203
   have H' := Aside0.mk H
   clear H
   go_wp2_with (first | ((with_reducible refine gate_dst (N := 24) rfl ?_); refine Kd.R_lit Kd.string _ 9 ?hg (N := 24) ?hd (xs := ([a0] : List ByteArray)) (inner := [.string a0]) (ok := fun _ => True) (okp := fun _ => True) ?hr ?hp (fun _ hk => hk) trivial (Below.refl _ _) (Nat.le_refl _) (by simp) ?_; (case hd => rfl); (case hg => rfl); (case hr => exact lr); (case hp => exact (Reps.one (show Kd.M Kd.string _ _ _ a0 [.string a0] from rfl) (Reps.none _ _))); intro v201 w10 ho11 hb hg_ hnew_; clear hg_ hnew_; (first | rw [← Ny200.out] at ho11 | (simp only [Int.reduceToNat] at ho11; rw [← Ny200.out] at ho11)); have n0_ := Aside0.mk (Kd.R_lower ho11 (below_size (lB HB.out))); have n1_ := Aside0.mk (below_step (lB HB.out) hb); clear HB; have HO202 := n0_; have HB := n1_; clear n0_ n1_; clear hb ho11) | ((with_reducible refine gate_dst (N := 26) rfl ?_); refine Kd.R_lit Kd.string _ 9 ?hg (N := 26) ?hd (xs := ([a0] : List ByteArray)) (inner := [.string a0]) (ok := fun _ => True) (okp := fun _ => True) ?hr ?hp (fun _ hk => hk) trivial (Below.refl _ _) (Nat.le_refl _) (by simp) ?_; (case hd => rfl); (case hg => rfl); (case hr => exact lr); (case hp => exact (Reps.one (show Kd.M Kd.string _ _ _ a0 [.string a0] from rfl) (Reps.none _ _))); intro v204 w12 ho13 hb hg_ hnew_; clear hg_ hnew_; (first | rw [← Ny203.out] at ho13 | (simp only [Int.reduceToNat] at ho13; rw [← Ny203.out] at ho13)); have n0_ := Aside0.mk (Kd.R_elder' (by (with_reducible repeat (first | apply Kd.R_alloc | apply Kd.R_drewN | apply Kd.R_drew)); exact HO202.out) (Kd.R_base ho13) hb); have n1_ := Aside0.mk (Kd.R_lower (Kd.R_new' ho13 (Kd.R_lt (by (with_reducible repeat (first | apply Kd.R_alloc | apply Kd.R_drewN | apply Kd.R_drew)); exact HO202.out))) (below_size (lB HB.out))); have n2_ := Aside0.mk (below_step (lB HB.out) hb); clear HO202 HB; have HO202 := n0_; have HO205 := n1_; have HB := n2_; clear n0_ n1_ n2_; clear hb ho13))
   go_loopg [6, 7, 8] kj2 (fun kq v6 v7 v8 w' => ∃ (x6_2 : List ByteArray) (x7_2 : List ByteArray) (x8_2 : Int), v8 = .int .i64 x8_2 ∧ Aside0 (spec_RotationDistance.l0 kq a1 x6_2 x7_2 x8_2 = some (r1, r2)) ∧ Aside0 (kq ≤ kj2) ∧ Aside0 (Kd.R Kd.string 9 w' w.heap.size (fun k_ => some k_ ≠ (v7 : Value).ownBlock) v6 x6_2) ∧ Aside0 (Kd.R Kd.string 9 w' w.heap.size (fun k_ => some k_ ≠ (v6 : Value).ownBlock) v7 x7_2) ∧ Aside0 (Below w.heap.size w w'))
   case atStart => exact ⟨(y200), (y203), (0), (by first | rfl | (simp; done) | (simp [*]; done)), H', ⟨Nat.le_refl _⟩, ⟨by (with_reducible repeat (first | apply Kd.R_alloc | apply Kd.R_drewN | apply Kd.R_drew)); exact Kd.R_mono HO202.out (fun _ hk => hk.2)⟩, ⟨by (with_reducible repeat (first | apply Kd.R_alloc | apply Kd.R_drewN | apply Kd.R_drew)); exact Kd.R_mono HO205.out (fun _ hk => hk.2)⟩, ⟨by exact lB HB.out⟩⟩
   case round =>
    clear H'
    (try clear c9)
    obtain ⟨x6_2, x7_2, x8_2, rfl, HA, HK2, HO_6, HO_7, HB⟩ := hrel
    cases gk with
    | zero => exact absurd HA.out (by simp [spec_RotationDistance.l0])
    | succ k2 =>
      have H := HA.out
      clear HA
      simp only [spec_RotationDistance.l0] at H
      by_cases c14 : (x7_2.length : Int) > 0
      · rw [if_pos c14] at H
        have c14b0 : decide (0 < (x7_2.length : Int)) = true := decide_eq_true c14
        have c14b1 : decide (0 < x7_2.length) = true := decide_eq_true (by omega)
        clear c14
        replace H := Option.bind_eq_some_iff.mp H
        obtain ⟨t206, A150, H⟩ := H
        replace H : (if t206 = true then (some (x8_2, true)) else (spec_RotationDistance.l1 k2 a1 x6_2 x8_2 ([] : List ByteArray) x7_2 (x7_2.length : Int) 0)) = some (r1, r2) := H
        have A15 := Aside0.mk A150
        clear A150
        by_cases c16 : t206 = true
        · subst c16
          have H1 : (some (x8_2, true)) = some (r1, r2) := by rw [if_pos rfl] at H; exact H
          clear H
          have H := H1
          clear H1
          simp only [Option.some.injEq, Prod.mk.injEq] at H
          obtain ⟨rfl, rfl⟩ := H
          obtain ⟨Ao17, co17, eo17⟩ := Kd.R_slice HO_7.out
          subst eo17
          go_wp2_with (first | ((with_reducible refine gate_callee (f := 106) rfl ?_); refine goesL_ (some 34) rfl rfl Try.func106 (by kernel_rfl) rfl #[.slice Ao17 x7_2.length co17, .string a1] rfl lm ?_; (with_reducible refine (spec_brHas.calls k2 _ _ x7_2 a1 true _ ?side1 ?side2 A15.out).mono ?_); (case side1 => repeat (first | exact (Kd.R_reads' HO_7.out).2.2 | (with_reducible refine Kd.C_alloc ?_ _) | (with_reducible refine Kd.C_drewN ?_ _) | (with_reducible refine Kd.C_drew ?_))); (case side2 => exact (Kd.R_reads' HO_7.out).2.1); rintro e w' ⟨rfl, ⟨nd, rfl⟩⟩; refine ⟨_, rfl, ?_⟩))
          go_ret2
          exact ⟨by first | rfl | (simp [errW_none, errW_some] <;> rfl) | (simp [*, errW_none, errW_some] <;> rfl), by exact lB HB.out⟩
        · replace c16 := Bool.eq_false_iff.mpr c16
          subst c16
          have H1 : (spec_RotationDistance.l1 k2 a1 x6_2 x8_2 ([] : List ByteArray) x7_2 (x7_2.length : Int) 0) = some (r1, r2) := by rw [if_neg (show ¬ (false = true) by decide)] at H; exact H
          clear H
          have H := H1
          clear H1
          have H' := Aside0.mk H
          clear H
          obtain ⟨Ao18, co18, eo18⟩ := Kd.R_slice HO_7.out
          subst eo18
          go_wp2_with (first | ((with_reducible refine gate_callee (f := 106) rfl ?_); refine goesL_ (some 34) rfl rfl Try.func106 (by kernel_rfl) rfl #[.slice Ao18 x7_2.length co18, .string a1] rfl lm ?_; (with_reducible refine (spec_brHas.calls k2 _ _ x7_2 a1 false _ ?side1 ?side2 A15.out).mono ?_); (case side1 => repeat (first | exact (Kd.R_reads' HO_7.out).2.2 | (with_reducible refine Kd.C_alloc ?_ _) | (with_reducible refine Kd.C_drewN ?_ _) | (with_reducible refine Kd.C_drew ?_))); (case side2 => exact (Kd.R_reads' HO_7.out).2.1); rintro e w' ⟨rfl, ⟨nd, rfl⟩⟩; refine ⟨_, rfl, ?_⟩))
          go_loopg [6, 9, 38] k2 (fun kq v6 v9 v38 w' => ∃ (x6_3 : List ByteArray) (x9_3 : List ByteArray) (x38_3 : Int), v38 = .int .i64 x38_3 ∧ Aside0 (spec_RotationDistance.l1 kq a1 x6_3 x8_2 x9_3 x7_2 (x7_2.length : Int) x38_3 = some (r1, r2)) ∧ Aside0 (kq ≤ k2) ∧ Aside0 (Kd.R Kd.string 9 w' w.heap.size (fun k_ => some k_ ≠ (v9 : Value).ownBlock ∧ some k_ ≠ ((.slice Ao18 x7_2.length co18) : Value).ownBlock) v6 x6_3) ∧ Aside0 (Kd.R Kd.string 9 w' w.heap.size (fun k_ => some k_ ≠ (v6 : Value).ownBlock ∧ some k_ ≠ ((.slice Ao18 x7_2.length co18) : Value).ownBlock) v9 x9_3) ∧ Aside0 (Kd.R Kd.string 9 w' w.heap.size (fun k_ => some k_ ≠ (v6 : Value).ownBlock ∧ some k_ ≠ (v9 : Value).ownBlock) (.slice Ao18 x7_2.length co18) x7_2) ∧ Aside0 (Below w.heap.size w w'))
          case atStart => exact ⟨(x6_2), (([] : List ByteArray)), (0), (by first | rfl | (simp; done) | (simp [*]; done)), H', ⟨Nat.le_refl _⟩, ⟨by (with_reducible repeat (first | apply Kd.R_alloc | apply Kd.R_drewN | apply Kd.R_drew)); exact Kd.R_mono HO_6.out (fun _ hk => ⟨(by simp [Value.ownBlock]), hk⟩)⟩, ⟨by first | exact Kd.R_nil _ _ _ _ _ | exact Kd.N_nil _ _ _ _ _ | exact Kd.V_nil _ _ _ _ _ | exact Kd.Q_nil _ _ _ _ _ | exact Kd.S_nil _ _ _ _ _⟩, ⟨by (with_reducible repeat (first | apply Kd.R_alloc | apply Kd.R_drewN | apply Kd.R_drew)); exact Kd.R_mono HO_7.out (fun _ hk => ⟨hk, (by simp [Value.ownBlock])⟩)⟩, ⟨by exact lB HB.out⟩⟩
          case round =>
            clear H'
            (try clear c14)
            (try clear c14b0)
            (try clear c14b1)
            (try clear c16)
            obtain ⟨x6_3, x9_3, x38_3, rfl, HA, HK3, HO_6, HO_9, HO_36, HB⟩ := hrel
            cases gk with
            | zero => exact absurd HA.out (by simp [spec_RotationDistance.l1])
            | succ k3 =>
              have H := HA.out
              clear HA
              simp only [spec_RotationDistance.l1] at H
              by_cases c19 : x38_3 < (x7_2.length : Int)
              · rw [if_pos c19] at H
                have c19b0 : decide (x38_3 < (x7_2.length : Int)) = true := decide_eq_true c19
                clear c19
                by_cases c20 : 0 ≤ x38_3
                · rw [if_pos c20] at H
                  have c20b0 : decide (0 ≤ x38_3) = true := decide_eq_true c20
                  clear c20
                  by_cases c21 : x38_3 < (x7_2.length : Int)
                  · rw [if_pos c21] at H
                    have c21b0 : decide (x38_3 < (x7_2.length : Int)) = true := decide_eq_true c21
                    clear c21
                    replace H := Option.bind_eq_some_iff.mp H
                    obtain ⟨t208, A220, H⟩ := H
                    replace H : (spec_RotationDistance.l2 k3 a1 x6_3 x8_2 x9_3 x7_2 (x7_2.length : Int) x38_3 t208 (t208.length : Int) 0) = some (r1, r2) := H
                    have A22 := Aside0.mk A220
                    clear A220
                    have H' := Aside0.mk H
                    clear H
                    have p207 : 0 ≤ (x38_3 : Int) := of_decide_eq_true (by first | (with_reducible assumption) | assumption)
                    have q207 : x38_3 < (x7_2.length : Int) := of_decide_eq_true (by first | (with_reducible assumption) | assumption)
                    obtain ⟨ad207, e207, hx207_0⟩ := Kd.at_string (Kd.R_reads' HO_36.out).2.2 x38_3 p207 q207
                    cases e207
                    replace p207 := eq_true p207
                    replace q207 := eq_true q207
                    go_wp2_with (first | ((with_reducible refine gate_callee (f := 107) rfl ?_); refine goesL_ (some 43) rfl rfl Try.func107 (by kernel_rfl) rfl #[.string (rdOf ByteArray.empty x7_2 x38_3)] rfl lm ?_; (with_reducible refine (spec_brNear.calls (rdOf ByteArray.empty x7_2 x38_3) t208 _ A22.out).mono ?_); rintro e w23 ⟨v209, rfl, ho0, hb⟩; refine ⟨_, rfl, ?_⟩; have n0_ := Aside0.mk (Kd.R_elder' (by (with_reducible repeat (first | apply Kd.R_alloc | apply Kd.R_drewN | apply Kd.R_drew)); exact HO_6.out) (Kd.R_base ho0) hb); have n1_ := Aside0.mk (Kd.R_elder' (by (with_reducible repeat (first | apply Kd.R_alloc | apply Kd.R_drewN | apply Kd.R_drew)); exact HO_9.out) (Kd.R_base ho0) hb); have n2_ := Aside0.mk (Kd.R_elder' (by (with_reducible repeat (first | apply Kd.R_alloc | apply Kd.R_drewN | apply Kd.R_drew)); exact HO_36.out) (Kd.R_base ho0) hb); have n3_ := Aside0.mk (Kd.R_lower (Kd.R_new' (Kd.R_new' (Kd.R_new' ho0 (Kd.R_lt (by (with_reducible repeat (first | apply Kd.R_alloc | apply Kd.R_drewN | apply Kd.R_drew)); exact HO_6.out))) (Kd.R_lt (by (with_reducible repeat (first | apply Kd.R_alloc | apply Kd.R_drewN | apply Kd.R_drew)); exact HO_9.out))) (Kd.R_lt (by (with_reducible repeat (first | apply Kd.R_alloc | apply Kd.R_drewN | apply Kd.R_drew)); exact HO_36.out))) (below_size (lB HB.out))); have n4_ := Aside0.mk (below_step (lB HB.out) hb); clear HO_6 HO_9 HO_36 HB; have HO_6 := n0_; have HO_9 := n1_; have HO_36 := n2_; have HO210 := n3_; have HB := n4_; clear n0_ n1_ n2_ n3_ n4_; (try clear hb); (try clear hb2); (try clear hk); (try clear hi); (try clear ho0); obtain ⟨Ao24, co24, eo24⟩ := Kd.R_slice HO210.out; subst eo24))
                    go_loopg [6, 9, 45] k3 (fun kq v6 v9 v45 w' => ∃ (x6_4 : List ByteArray) (x9_4 : List ByteArray) (x45_4 : Int), v45 = .int .i64 x45_4 ∧ Aside0 (spec_RotationDistance.l2 kq a1 x6_4 x8_2 x9_4 x7_2 (x7_2.length : Int) x38_3 t208 (t208.length : Int) x45_4 = some (r1, r2)) ∧ Aside0 (kq ≤ k3) ∧ Aside0 (Kd.R Kd.string 9 w' w.heap.size (fun k_ => some k_ ≠ (v9 : Value).ownBlock ∧ some k_ ≠ ((.slice (some ad207) x7_2.length co18) : Value).ownBlock ∧ some k_ ≠ ((.slice Ao24 t208.length co24) : Value).ownBlock) v6 x6_4) ∧ Aside0 (Kd.R Kd.string 9 w' w.heap.size (fun k_ => some k_ ≠ (v6 : Value).ownBlock ∧ some k_ ≠ ((.slice (some ad207) x7_2.length co18) : Value).ownBlock ∧ some k_ ≠ ((.slice Ao24 t208.length co24) : Value).ownBlock) v9 x9_4) ∧ Aside0 (Kd.R Kd.string 9 w' w.heap.size (fun k_ => some k_ ≠ (v6 : Value).ownBlock ∧ some k_ ≠ (v9 : Value).ownBlock ∧ some k_ ≠ ((.slice Ao24 t208.length co24) : Value).ownBlock) (.slice (some ad207) x7_2.length co18) x7_2) ∧ Aside0 (Kd.R Kd.string 9 w' w.heap.size (fun k_ => some k_ ≠ (v6 : Value).ownBlock ∧ some k_ ≠ (v9 : Value).ownBlock ∧ some k_ ≠ ((.slice (some ad207) x7_2.length co18) : Value).ownBlock) (.slice Ao24 t208.length co24) t208) ∧ Aside0 (Below w.heap.size w w'))
                    case atStart => exact ⟨(x6_3), (x9_3), (0), (by first | rfl | (simp; done) | (simp [*]; done)), H', ⟨Nat.le_refl _⟩, ⟨by (with_reducible repeat (first | apply Kd.R_alloc | apply Kd.R_drewN | apply Kd.R_drew)); exact Kd.R_mono HO_6.out (fun _ hk => ⟨hk.1.1, ⟨hk.1.2, hk.2⟩⟩)⟩, ⟨by (with_reducible repeat (first | apply Kd.R_alloc | apply Kd.R_drewN | apply Kd.R_drew)); exact Kd.R_mono HO_9.out (fun _ hk => ⟨hk.1.1, ⟨hk.1.2, hk.2⟩⟩)⟩, ⟨by (with_reducible repeat (first | apply Kd.R_alloc | apply Kd.R_drewN | apply Kd.R_drew)); exact Kd.R_mono HO_36.out (fun _ hk => ⟨hk.1.1, ⟨hk.1.2, hk.2⟩⟩)⟩, ⟨by (with_reducible repeat (first | apply Kd.R_alloc | apply Kd.R_drewN | apply Kd.R_drew)); exact Kd.R_mono HO210.out (fun _ hk => ⟨hk.1.1.2, ⟨hk.1.2, hk.2⟩⟩)⟩, ⟨by exact lB HB.out⟩⟩
                    case round =>
                      clear H'
                      (try clear c19)
                      (try clear c19b0)
                      (try clear c20)
                      (try clear c20b0)
                      (try clear c21)
                      (try clear c21b0)
                      (try clear hx207_0)
                      (try clear p207)
                      (try clear q207)
                      obtain ⟨x6_4, x9_4, x45_4, rfl, HA, HK4, HO_6, HO_9, HO_36, HO_43, HB⟩ := hrel
                      cases gk with
                      | zero => exact absurd HA.out (by simp [spec_RotationDistance.l2])
                      | succ k4 =>
                        have H := HA.out
                        clear HA
                        simp only [spec_RotationDistance.l2] at H
                        by_cases c25 : x45_4 < (t208.length : Int)
                        · rw [if_pos c25] at H
                          have c25b0 : decide (x45_4 < (t208.length : Int)) = true := decide_eq_true c25
                          clear c25
                          by_cases c26 : 0 ≤ x45_4
                          · rw [if_pos c26] at H
                            have c26b0 : decide (0 ≤ x45_4) = true := decide_eq_true c26
                            clear c26
                            by_cases c27 : x45_4 < (t208.length : Int)
                            · rw [if_pos c27] at H
                              have c27b0 : decide (x45_4 < (t208.length : Int)) = true := decide_eq_true c27
                              clear c27
                              replace H := Option.bind_eq_some_iff.mp H
                              obtain ⟨t212, A280, H⟩ := H
                              replace H : (if t212 = true then (spec_RotationDistance.l2 k4 a1 x6_4 x8_2 x9_4 x7_2 (x7_2.length : Int) x38_3 t208 (t208.length : Int) (wrap64 (x45_4 + 1))) else (if x6_4.length < 8796093022208 then (if x9_4.length < 8796093022208 then (spec_RotationDistance.l2 k4 a1 (x6_4 ++ [rdOf ByteArray.empty t208 x45_4]) x8_2 (x9_4 ++ [rdOf ByteArray.empty t208 x45_4]) x7_2 (x7_2.length : Int) x38_3 t208 (t208.length : Int) (wrap64 (x45_4 + 1))) else (none)) else (none))) = some (r1, r2) := H
                              have A28 := Aside0.mk A280
                              clear A280
                              by_cases c29 : t212 = true
                              · subst c29
                                have H1 : (spec_RotationDistance.l2 k4 a1 x6_4 x8_2 x9_4 x7_2 (x7_2.length : Int) x38_3 t208 (t208.length : Int) (wrap64 (x45_4 + 1))) = some (r1, r2) := by rw [if_pos rfl] at H; exact H
                                clear H
                                have H := H1
                                clear H1
                                have H' := Aside0.mk H
                                clear H
                                have p211 : 0 ≤ (x45_4 : Int) := of_decide_eq_true (by first | (with_reducible assumption) | assumption)
                                have q211 : x45_4 < (t208.length : Int) := of_decide_eq_true (by first | (with_reducible assumption) | assumption)
                                obtain ⟨ad211, e211, hx211_0⟩ := Kd.at_string (Kd.R_reads' HO_43.out).2.2 x45_4 p211 q211
                                cases e211
                                replace p211 := eq_true p211
                                replace q211 := eq_true q211
                                obtain ⟨Ao30, co30, eo30⟩ := Kd.R_slice HO_6.out
                                subst eo30
                                go_wp2_with (first | ((with_reducible refine gate_callee (f := 106) rfl ?_); refine goesL_ (some 51) rfl rfl Try.func106 (by kernel_rfl) rfl #[.slice Ao30 x6_4.length co30, .string (rdOf ByteArray.empty t208 x45_4)] rfl lm ?_; (with_reducible refine (spec_brHas.calls k4 _ _ x6_4 (rdOf ByteArray.empty t208 x45_4) true _ ?side1 ?side2 A28.out).mono ?_); (case side1 => repeat (first | exact (Kd.R_reads' HO_6.out).2.2 | (with_reducible refine Kd.C_alloc ?_ _) | (with_reducible refine Kd.C_drewN ?_ _) | (with_reducible refine Kd.C_drew ?_))); (case side2 => exact (Kd.R_reads' HO_6.out).2.1); rintro e w' ⟨rfl, ⟨nd, rfl⟩⟩; refine ⟨_, rfl, ?_⟩))
                                go_roundg k4
                                case measure => have := HJ2.out; have := HK2.out; have := HK3.out; have := HK4.out; omega
                                case rel => exact ⟨(x6_4), (x9_4), (wrap64 (x45_4 + 1)), (by first | rfl | (simp; done) | (simp [*]; done)), H', ⟨by have := HJ2.out; have := HK2.out; have := HK3.out; have := HK4.out; omega⟩, ⟨by (with_reducible repeat (first | apply Kd.R_alloc | apply Kd.R_drewN | apply Kd.R_drew)); exact HO_6.out⟩, ⟨by (with_reducible repeat (first | apply Kd.R_alloc | apply Kd.R_drewN | apply Kd.R_drew)); exact HO_9.out⟩, ⟨by (with_reducible repeat (first | apply Kd.R_alloc | apply Kd.R_drewN | apply Kd.R_drew)); exact HO_36.out⟩, ⟨by (with_reducible repeat (first | apply Kd.R_alloc | apply Kd.R_drewN | apply Kd.R_drew)); exact HO_43.out⟩, ⟨by exact lB HB.out⟩⟩
                              · replace c29 := Bool.eq_false_iff.mpr c29
                                subst c29
                                have H1 : (if x6_4.length < 8796093022208 then (if x9_4.length < 8796093022208 then (spec_RotationDistance.l2 k4 a1 (x6_4 ++ [rdOf ByteArray.empty t208 x45_4]) x8_2 (x9_4 ++ [rdOf ByteArray.empty t208 x45_4]) x7_2 (x7_2.length : Int) x38_3 t208 (t208.length : Int) (wrap64 (x45_4 + 1))) else (none)) else (none)) = some (r1, r2) := by rw [if_neg (show ¬ (false = true) by decide)] at H; exact H
                                clear H
                                have H := H1
                                clear H1
                                by_cases c31 : x6_4.length < 8796093022208
                                · rw [if_pos c31] at H
                                  have LMc31 := Aside0.mk c31
                                  clear c31
                                  obtain ⟨y213, hy213⟩ : ∃ y_ : List ByteArray, y_ = (x6_4 ++ [rdOf ByteArray.empty t208 x45_4]) := ⟨_, rfl⟩
                                  replace H : (if x9_4.length < 8796093022208 then (spec_RotationDistance.l2 k4 a1 y213 x8_2 (x9_4 ++ [rdOf ByteArray.empty t208 x45_4]) x7_2 (x7_2.length : Int) x38_3 t208 (t208.length : Int) (wrap64 (x45_4 + 1))) else (none)) = some (r1, r2) := by first | (rw [hy213]; with_reducible exact H) | (have H2_ := (Option.bind_some _ _).symm.trans H; rw [hy213]; with_reducible exact H2_) | (have H2_ := (Option.bind_some _ _).symm.trans H; with_reducible exact H2_) | with_reducible exact H | (rw [hy213]; exact H) | exact H
                                  have Ny213 := Aside0.mk hy213
                                  clear hy213
                                  by_cases c32 : x9_4.length < 8796093022208
                                  · rw [if_pos c32] at H
                                    have LMc32 := Aside0.mk c32
                                    clear c32
                                    obtain ⟨y216, hy216⟩ : ∃ y_ : List ByteArray, y_ = (x9_4 ++ [rdOf ByteArray.empty t208 x45_4]) := ⟨_, rfl⟩
                                    replace H : (spec_RotationDistance.l2 k4 a1 y213 x8_2 y216 x7_2 (x7_2.length : Int) x38_3 t208 (t208.length : Int) (wrap64 (x45_4 + 1))) = some (r1, r2) := by first | (rw [hy216]; with_reducible exact H) | (have H2_ := (Option.bind_some _ _).symm.trans H; rw [hy216]; with_reducible exact H2_) | (have H2_ := (Option.bind_some _ _).symm.trans H; with_reducible exact H2_) | with_reducible exact H | (rw [hy216]; exact H) | exact H
                                    have Ny216 := Aside0.mk hy216
                                    clear hy216
                                    have H' := Aside0.mk H
                                    clear H
                                    have p211 : 0 ≤ (x45_4 : Int) := of_decide_eq_true (by first | (with_reducible assumption) | assumption)
                                    have q211 : x45_4 < (t208.length : Int) := of_decide_eq_true (by first | (with_reducible assumption) | assumption)
                                    obtain ⟨ad211, e211, hx211_0⟩ := Kd.at_string (Kd.R_reads' HO_43.out).2.2 x45_4 p211 q211
                                    cases e211
                                    replace p211 := eq_true p211
                                    replace q211 := eq_true q211
                                    obtain ⟨Ao33, co33, eo33⟩ := Kd.R_slice HO_6.out
                                    subst eo33
                                    go_wp2_with (first | ((with_reducible refine gate_callee (f := 106) rfl ?_); refine goesL_ (some 51) rfl rfl Try.func106 (by kernel_rfl) rfl #[.slice Ao33 x6_4.length co33, .string (rdOf ByteArray.empty t208 x45_4)] rfl lm ?_; (with_reducible refine (spec_brHas.calls k4 _ _ x6_4 (rdOf ByteArray.empty t208 x45_4) false _ ?side1 ?side2 A28.out).mono ?_); (case side1 => repeat (first | exact (Kd.R_reads' HO_6.out).2.2 | (with_reducible refine Kd.C_alloc ?_ _) | (with_reducible refine Kd.C_drewN ?_ _) | (with_reducible refine Kd.C_drew ?_))); (case side2 => exact (Kd.R_reads' HO_6.out).2.1); rintro e w' ⟨rfl, ⟨nd, rfl⟩⟩; refine ⟨_, rfl, ?_⟩) | ((with_reducible refine gate_builtin (b := .append) (xs := #[.tmp 53, .tmp 55]) rfl ?_); at_builtin; refine Kd.R_append Kd.string (w0 := w) w.heap.size rfl (.tmp 53) (.tmp 55) 56 9 (.string ⟨#[]⟩) 16 rfl Try.underlying56 info9 rfl (by decide) (by omega) (.slice Ao33 x6_4.length co33) x6_4 (rdOf ByteArray.empty t208 x45_4) [.string (rdOf ByteArray.empty t208 x45_4)] (fun k_ => some k_ ≠ (u9 : Value).ownBlock ∧ some k_ ≠ (.slice (some ad207) x7_2.length co18 : Value).ownBlock ∧ some k_ ≠ (.slice (some ad211) t208.length co24 : Value).ownBlock) (fun _ => False) rfl rfl ?aP (fun _ hk => hk.elim) ?aF ?aO ?aB ?aS ?aL ?_; (case aP => exact rfl); (case aB => exact (lB HB.out)); (case aF => exact (fun k_ hk => ⟨Kd.fresh' (Kd.R_lt (by (with_reducible repeat (first | apply Kd.R_alloc | apply Kd.R_drewN | apply Kd.R_drew)); exact HO_9.out)) k_ hk, Kd.fresh' (Kd.R_lt (by (with_reducible repeat (first | apply Kd.R_alloc | apply Kd.R_drewN | apply Kd.R_drew)); exact HO_36.out)) k_ hk, Kd.fresh' (Kd.R_lt (by (with_reducible repeat (first | apply Kd.R_alloc | apply Kd.R_drewN | apply Kd.R_drew)); exact HO_43.out)) k_ hk⟩)); (case aO => exact (by (with_reducible repeat (first | apply Kd.R_alloc | apply Kd.R_drewN | apply Kd.R_drew)); exact HO_6.out)); (case aS => exact (below_size (lB HB.out))); (case aL => have := LMc31.out; omega); intro v214 w34 ho hb hg hat; rw [← Ny213.out] at ho; have n0_ := Aside0.mk (Kd.R_after (ok := (fun k_ => some k_ ≠ (.slice (some ad207) x7_2.length co18 : Value).ownBlock ∧ some k_ ≠ (.slice (some ad211) t208.length co24 : Value).ownBlock)) (by (with_reducible repeat (first | apply Kd.R_alloc | apply Kd.R_drewN | apply Kd.R_drew)); exact Kd.R_mono HO_9.out (fun _ hk => ⟨⟨hk.2.1, hk.2.2⟩, hk.1⟩)) hg hat); have n1_ := Aside0.mk (Kd.R_after (ok := (fun k_ => some k_ ≠ (u9 : Value).ownBlock ∧ some k_ ≠ (.slice (some ad211) t208.length co24 : Value).ownBlock)) (by (with_reducible repeat (first | apply Kd.R_alloc | apply Kd.R_drewN | apply Kd.R_drew)); exact Kd.R_mono HO_36.out (fun _ hk => ⟨⟨hk.2.1, hk.2.2⟩, hk.1⟩)) hg hat); have n2_ := Aside0.mk (Kd.R_after (ok := (fun k_ => some k_ ≠ (u9 : Value).ownBlock ∧ some k_ ≠ (.slice (some ad207) x7_2.length co18 : Value).ownBlock)) (by (with_reducible repeat (first | apply Kd.R_alloc | apply Kd.R_drewN | apply Kd.R_drew)); exact Kd.R_mono HO_43.out (fun _ hk => ⟨⟨hk.2.1, hk.2.2⟩, hk.1⟩)) hg hat); have n3_ := Aside0.mk (hb); have n4_ := Aside0.mk (ho); clear HO_9 HO_36 HO_43 HB HO_6; have HO_9 := n0_; have HO_36 := n1_; have HO_43 := n2_; have HB := n3_; have HO215 := n4_; clear n0_ n1_ n2_ n3_ n4_; clear ho hb hg hat) | ((with_reducible refine gate_builtin (b := .append) (xs := #[.tmp 57, .tmp 59]) rfl ?_); at_builtin; refine Kd.R_append Kd.string (w0 := w) w.heap.size rfl (.tmp 57) (.tmp 59) 56 9 (.string ⟨#[]⟩) 16 rfl Try.underlying56 info9 rfl (by decide) (by omega) u9 x9_4 (rdOf ByteArray.empty t208 x45_4) [.string (rdOf ByteArray.empty t208 x45_4)] (fun k_ => some k_ ≠ (.slice (some ad207) x7_2.length co18 : Value).ownBlock ∧ some k_ ≠ (.slice (some ad211) t208.length co24 : Value).ownBlock ∧ some k_ ≠ (v214 : Value).ownBlock) (fun _ => False) rfl rfl ?aP (fun _ hk => hk.elim) ?aF ?aO ?aB ?aS ?aL ?_; (case aP => exact rfl); (case aB => exact (lB HB.out)); (case aF => exact (fun k_ hk => ⟨Kd.fresh' (Kd.R_lt (by (with_reducible repeat (first | apply Kd.R_alloc | apply Kd.R_drewN | apply Kd.R_drew)); exact HO_36.out)) k_ hk, Kd.fresh' (Kd.R_lt (by (with_reducible repeat (first | apply Kd.R_alloc | apply Kd.R_drewN | apply Kd.R_drew)); exact HO_43.out)) k_ hk, Kd.fresh' (Kd.R_lt (by (with_reducible repeat (first | apply Kd.R_alloc | apply Kd.R_drewN | apply Kd.R_drew)); exact HO215.out)) k_ hk⟩)); (case aO => exact (by (with_reducible repeat (first | apply Kd.R_alloc | apply Kd.R_drewN | apply Kd.R_drew)); exact Kd.R_mono HO_9.out (fun _ hk => ⟨hk.1.1, ⟨hk.1.2, hk.2⟩⟩))); (case aS => exact (below_size (lB HB.out))); (case aL => have := LMc32.out; omega); intro v217 w35 ho hb hg hat; rw [← Ny216.out] at ho; have n0_ := Aside0.mk (Kd.R_after (ok := (fun k_ => some k_ ≠ (.slice (some ad211) t208.length co24 : Value).ownBlock ∧ some k_ ≠ (v214 : Value).ownBlock)) (by (with_reducible repeat (first | apply Kd.R_alloc | apply Kd.R_drewN | apply Kd.R_drew)); exact Kd.R_mono HO_36.out (fun _ hk => ⟨⟨hk.1.2, hk.2⟩, hk.1.1⟩)) hg hat); have n1_ := Aside0.mk (Kd.R_after (ok := (fun k_ => some k_ ≠ (.slice (some ad207) x7_2.length co18 : Value).ownBlock ∧ some k_ ≠ (v214 : Value).ownBlock)) (by (with_reducible repeat (first | apply Kd.R_alloc | apply Kd.R_drewN | apply Kd.R_drew)); exact Kd.R_mono HO_43.out (fun _ hk => ⟨⟨hk.1.2, hk.2⟩, hk.1.1⟩)) hg hat); have n2_ := Aside0.mk (Kd.R_after (ok := (fun k_ => some k_ ≠ (.slice (some ad207) x7_2.length co18 : Value).ownBlock ∧ some k_ ≠ (.slice (some ad211) t208.length co24 : Value).ownBlock)) (by (with_reducible repeat (first | apply Kd.R_alloc | apply Kd.R_drewN | apply Kd.R_drew)); exact Kd.R_mono HO215.out (fun _ hk => ⟨⟨hk.2.1, hk.2.2⟩, hk.1⟩)) hg hat); have n3_ := Aside0.mk (hb); have n4_ := Aside0.mk (ho); clear HO_36 HO_43 HO215 HB HO_9; have HO_36 := n0_; have HO_43 := n1_; have HO215 := n2_; have HB := n3_; have HO218 := n4_; clear n0_ n1_ n2_ n3_ n4_; clear ho hb hg hat))
                                    go_roundg k4
                                    case measure => have := HJ2.out; have := HK2.out; have := HK3.out; have := HK4.out; omega
                                    case rel => exact ⟨(y213), (y216), (wrap64 (x45_4 + 1)), (by first | rfl | (simp; done) | (simp [*]; done)), H', ⟨by have := HJ2.out; have := HK2.out; have := HK3.out; have := HK4.out; omega⟩, ⟨by (with_reducible repeat (first | apply Kd.R_alloc | apply Kd.R_drewN | apply Kd.R_drew)); exact Kd.R_mono HO215.out (fun _ hk => ⟨hk.2, ⟨hk.1.1, hk.1.2⟩⟩)⟩, ⟨by (with_reducible repeat (first | apply Kd.R_alloc | apply Kd.R_drewN | apply Kd.R_drew)); exact Kd.R_mono HO218.out (fun _ hk => ⟨hk.2.2, ⟨hk.1, hk.2.1⟩⟩)⟩, ⟨by (with_reducible repeat (first | apply Kd.R_alloc | apply Kd.R_drewN | apply Kd.R_drew)); exact Kd.R_mono HO_36.out (fun _ hk => ⟨hk.1.2, ⟨hk.2, hk.1.1⟩⟩)⟩, ⟨by (with_reducible repeat (first | apply Kd.R_alloc | apply Kd.R_drewN | apply Kd.R_drew)); exact Kd.R_mono HO_43.out (fun _ hk => ⟨hk.1.2, ⟨hk.2, hk.1.1⟩⟩)⟩, ⟨by exact lB HB.out⟩⟩
                                  · rw [if_neg c32] at H
                                    exact absurd H (by simp)
                                · rw [if_neg c31] at H
                                  exact absurd H (by simp)
                            · rw [if_neg c27] at H
                              exact absurd H (by simp)
                          · rw [if_neg c26] at H
                            exact absurd H (by simp)
                        · rw [if_neg c25] at H
                          have c25b0 : decide (x45_4 < (t208.length : Int)) = false := decide_eq_false c25
                          clear c25
                          have H' := Aside0.mk H
                          clear H
                          go_wp2
                          go_roundg k4
                          case measure => have := HJ2.out; have := HK2.out; have := HK3.out; have := HK4.out; omega
                          case rel => exact ⟨(x6_4), (x9_4), (wrap64 (x38_3 + 1)), (by first | rfl | (simp; done) | (simp [*]; done)), H', ⟨by have := HJ2.out; have := HK2.out; have := HK3.out; have := HK4.out; omega⟩, ⟨by (with_reducible repeat (first | apply Kd.R_alloc | apply Kd.R_drewN | apply Kd.R_drew)); exact Kd.R_mono HO_6.out (fun _ hk => ⟨hk.1, hk.2.1⟩)⟩, ⟨by (with_reducible repeat (first | apply Kd.R_alloc | apply Kd.R_drewN | apply Kd.R_drew)); exact Kd.R_mono HO_9.out (fun _ hk => ⟨hk.1, hk.2.1⟩)⟩, ⟨by (with_reducible repeat (first | apply Kd.R_alloc | apply Kd.R_drewN | apply Kd.R_drew)); exact Kd.R_mono HO_36.out (fun _ hk => ⟨hk.1, hk.2.1⟩)⟩, ⟨by exact lB HB.out⟩⟩
                  · rw [if_neg c21] at H
                    exact absurd H (by simp)
                · rw [if_neg c20] at H
                  exact absurd H (by simp)
              · rw [if_neg c19] at H
                have c19b0 : decide (x38_3 < (x7_2.length : Int)) = false := decide_eq_false c19
                clear c19
                have H' := Aside0.mk H
                clear H
                go_wp2
                go_roundg k3
                case measure => have := HJ2.out; have := HK2.out; have := HK3.out; omega
                case rel => exact ⟨(x6_3), (x9_3), (wrap64 (x8_2 + 1)), (by first | rfl | (simp; done) | (simp [*]; done)), H', ⟨by have := HJ2.out; have := HK2.out; have := HK3.out; omega⟩, ⟨by (with_reducible repeat (first | apply Kd.R_alloc | apply Kd.R_drewN | apply Kd.R_drew)); exact Kd.R_mono HO_6.out (fun _ hk => hk.1)⟩, ⟨by (with_reducible repeat (first | apply Kd.R_alloc | apply Kd.R_drewN | apply Kd.R_drew)); exact Kd.R_mono HO_9.out (fun _ hk => hk.1)⟩, ⟨by exact lB HB.out⟩⟩
      · rw [if_neg c14] at H
        have c14b0 : decide (0 < (x7_2.length : Int)) = false := decide_eq_false c14
        have c14b1 : decide (0 < x7_2.length) = false := decide_eq_false (by omega)
        clear c14
        simp only [Option.some.injEq, Prod.mk.injEq] at H
        obtain ⟨rfl, rfl⟩ := H
        obtain ⟨Ao36, co36, eo36⟩ := Kd.R_slice HO_7.out
        subst eo36
        go_wp2
        go_ret2
        exact ⟨by first | rfl | (simp [errW_none, errW_some] <;> rfl) | (simp [*, errW_none, errW_some] <;> rfl), by exact lB HB.out⟩
end Go.Proofs.Ytijnadjgmmednaa.PA
namespace Go.Proofs.Ytijnadjgmmednaa.PA
open Go.RowKit Go.Proofs.YtijnadjgmmednaaW.PrintWords Go.Proofs.YtijnadjgmmednaaW.PrintLast Go.Proofs.YtijnadjgmmednaaW.PrintMore
attribute [local go_sem] max2_int min2_int max_two min_two max_three min_three max_four min_four
def laws_FnExactRotationDistance.f (k : Nat) (a0 : ByteArray) (a1 : ByteArray) : Option (Bool) := if (a0.size : Int) > 1048576 then (some true) else (if (a1.size : Int) > 1048576 then (some true) else ((spec_RotationDistance.f k a0 a1).bind fun bt270 => ((impl_RotationDistance.f a0 a1).bind fun bt272 => (if bt272.1 = bt270.1 then (if (bt272.2 != bt270.2) = true then (some false) else (some true)) else (some false)))))
theorem laws_FnExactRotationDistance.mono : ∀ a0 a1 k, LeO (laws_FnExactRotationDistance.f k a0 a1) (laws_FnExactRotationDistance.f (k + 1) a0 a1) := by
  intro a0 a1 k
  unfold laws_FnExactRotationDistance.f
  repeat' first
      | (with_reducible exact spec_RotationDistance.mono _ _ _)
      | (with_reducible exact LeO.refl _)
      | (with_reducible exact LeO.none _)
      | (with_reducible refine LeO.ite ?_ ?_)
      | (with_reducible refine LeO.bind ?_ (fun _ => ?_))
      | exact spec_RotationDistance.mono _ _ _
      | exact LeO.none _
      | refine LeO.ite ?_ ?_
      | refine LeO.bind ?_ (fun _ => ?_)
set_option maxHeartbeats 8000000 in
set_option maxRecDepth 100000 in
theorem laws_FnExactRotationDistance.calls (k : Nat) (a0 : ByteArray) (a1 : ByteArray) (r : Bool) (w : World) (h : laws_FnExactRotationDistance.f k a0 a1 = some r) (HRT : Aside0 (r = true)) :
    Calls Try.prog 6 #[.string a0, .string a1] w fun e w' => e = .returned (.bool r) ∧ Below w.heap.size w w' := by
  have HB := Aside0.mk (Below.refl w.heap.size w)
  have H : (if (a0.size : Int) > 1048576 then (some true) else (if (a1.size : Int) > 1048576 then (some true) else ((spec_RotationDistance.f k a0 a1).bind fun bt270 => ((impl_RotationDistance.f a0 a1).bind fun bt272 => (if bt272.1 = bt270.1 then (if (bt272.2 != bt270.2) = true then (some false) else (some true)) else (some false)))))) = some r := h
  clear h
  by_cases c3 : (a0.size : Int) > 1048576
  · rw [if_pos c3] at H
    have c3b0 : decide (1048576 < (a0.size : Int)) = true := decide_eq_true c3
    have c3b1 : decide (1048576 < a0.size) = true := decide_eq_true (by omega)
    clear c3
    obtain rfl := Option.some.inj H
    go_enter Try.func6, Try.ntmps6
    go_wp2
    go_ret
    exact ⟨by first | rfl | (simp [errW_none, errW_some] <;> rfl) | (simp [*, errW_none, errW_some] <;> rfl), by exact lB HB.out⟩
  rw [if_neg c3] at H
  have c3b0 : decide (1048576 < (a0.size : Int)) = false := decide_eq_false c3
  have c3b1 : decide (1048576 < a0.size) = false := decide_eq_false (by omega)
  clear c3
  by_cases c4 : (a1.size : Int) > 1048576
  · rw [if_pos c4] at H
    have c4b0 : decide (1048576 < (a1.size : Int)) = true := decide_eq_true c4
    have c4b1 : decide (1048576 < a1.size) = true := decide_eq_true (by omega)
    clear c4
    obtain rfl := Option.some.inj H
    go_enter Try.func6, Try.ntmps6
    go_wp2
    go_ret
    exact ⟨by first | rfl | (simp [errW_none, errW_some] <;> rfl) | (simp [*, errW_none, errW_some] <;> rfl), by exact lB HB.out⟩
  rw [if_neg c4] at H
  have c4b0 : decide (1048576 < (a1.size : Int)) = false := decide_eq_false c4
  have c4b1 : decide (1048576 < a1.size) = false := decide_eq_false (by omega)
  clear c4
  replace H := Option.bind_eq_some_iff.mp H
  obtain ⟨⟨t270, t271⟩, A50, H⟩ := H
  (try dsimp only at H)
  have A5 := Aside0.mk A50
  clear A50
  replace H := Option.bind_eq_some_iff.mp H
  obtain ⟨⟨t272, t273⟩, A60, H⟩ := H
  (try dsimp only at H)
  have A6 := Aside0.mk A60
  clear A60
  by_cases c7 : t272 = t270
  rotate_left
  · rw [if_neg c7] at H
    have c7b0 : (t272 == t270) = false := beq_eq_false_iff_ne.mpr c7
    have c7b1 : (t272 != t270) = true := bne_iff_ne.mpr c7
    exact absurd ((Option.some.inj H).trans HRT.out) (by decide)

  rw [if_pos c7] at H
  have c7b0 : (t272 == t270) = true := beq_iff_eq.mpr c7
  have c7b1 : (t272 != t270) = false := bne_eq_false_iff_eq.mpr c7
  clear c7
  by_cases c8 : (t273 != t271) = true
  · rw [if_pos c8] at H
    have c8b0 : (t273 != t271) = true := c8
    (try (have c8b1 : decide (t273 = t271) = false := by simpa using c8))
    (try (have c8b2 : (t273 == t271) = false := by simpa using c8))
    (try (have c8b3 : ¬ (t273 = t271) := by simpa using c8))
    clear c8
    exact absurd ((Option.some.inj H).trans HRT.out) (by decide)
  rw [if_neg c8] at H
  have c8b0 : (t273 != t271) = false := by simpa using c8
  (try (have c8b1 : decide (t273 = t271) = true := by simpa using c8))
  (try (have c8b2 : (t273 == t271) = true := by simpa using c8))
  clear c8
  obtain rfl := Option.some.inj H
  go_enter Try.func6, Try.ntmps6
  go_wp2_with (first | ((with_reducible refine gate_callee (f := 40) rfl ?_); refine goesL_ (some 18) rfl rfl Try.func40 (by kernel_rfl) rfl #[.string a0, .string a1] rfl lm ?_; (with_reducible refine (spec_RotationDistance.calls k a0 a1 t270 t271 _ A5.out).mono ?_); rintro e w9 ⟨rfl, hb⟩; refine ⟨_, rfl, ?_⟩; have n0_ := Aside0.mk (below_step (lB HB.out) hb); clear HB; have HB := n0_; clear n0_; (try clear hb); (try clear hb2); (try clear hk); (try clear hi)) | ((with_reducible refine gate_callee (f := 39) rfl ?_); refine goesL_ (some 24) rfl rfl Try.func39 (by kernel_rfl) rfl #[.string a0, .string a1] rfl lm ?_; (with_reducible refine (impl_RotationDistance.calls a0 a1 t272 t273 _ A6.out).mono ?_); rintro e w10 ⟨rfl, hb⟩; refine ⟨_, rfl, ?_⟩; have n0_ := Aside0.mk (below_step (lB HB.out) hb); clear HB; have HB := n0_; clear n0_; (try clear hb); (try clear hb2); (try clear hk); (try clear hi)))
  go_ret
  exact ⟨by first | rfl | (simp [errW_none, errW_some] <;> rfl) | (simp [*, errW_none, errW_some] <;> rfl), by exact lB HB.out⟩
def laws_FnExactRotationDistance.Pure : Prop := ∀ (a0 : ByteArray) (a1 : ByteArray), a0.size ≤ 140737488351232 → a1.size ≤ 140737488351232 → ∃ k, laws_FnExactRotationDistance.f k a0 a1 = some true
theorem laws_FnExactRotationDistance.walk (P : laws_FnExactRotationDistance.Pure) (a0 : ByteArray) (a1 : ByteArray) (w : World) (w0 : a0.size ≤ 140737488351232) (w1 : a1.size ≤ 140737488351232) :
    Calls Try.prog 6 #[.string a0, .string a1] w fun e w' => e = .returned (.bool true) ∧ Below w.heap.size w w' := by
  obtain ⟨k, h⟩ := P a0 a1 w0 w1
  refine (laws_FnExactRotationDistance.calls k a0 a1 true w h (Aside0.mk rfl)).mono ?_
  rintro e w' ⟨rfl, hd⟩
  exact ⟨rfl, hd⟩
end Go.Proofs.Ytijnadjgmmednaa.PA
namespace Go.Proofs.Ytijnadjgmmednaa.PA
open Go.RowKit Go.Proofs.YtijnadjgmmednaaW.PrintWords
instance memB (a : ByteArray) (l : List ByteArray) : Decidable (a ∈ l) := @List.instDecidableMemOfLawfulBEq ByteArray instBEqOfDecidableEq inferInstance a l
theorem w64' {x : Int} (h : -9223372036854775808 ≤ x ∧ x ≤ 9223372036854775807) : wrap64 x = x := by unfold wrap64; omega
theorem rdOf_get {l : List ByteArray} {j : Nat} (h : j < l.length) : rdOf ByteArray.empty l (j : Int) = l[j] := by
  unfold rdOf
  rw [List.getD_eq_getElem?_getD, show ((j : Int).toNat) = j from rfl, List.getElem?_eq_getElem h]; rfl
theorem toList_inj' {a b : ByteArray} (h : a.toList = b.toList) : a = b := by rw [N.S_of a, N.S_of b, h]
theorem has_l0 (a : ByteArray) (l : List ByteArray) (hl : l.length ≤ 1000000000) : ∀ n j : Nat, n + j = l.length → Ev (fun k => spec_brHas.l0 k a l (l.length : Int) (j : Int)) (decide (a ∈ l.drop j))
  | 0, j, h => ⟨1, fun k hk => by
    obtain ⟨k, rfl⟩ : ∃ k', k = k' + 1 := ⟨k - 1, by omega⟩
    show spec_brHas.l0 (k + 1) _ _ _ _ = _
    rw [spec_brHas.l0, if_neg (by omega), List.drop_eq_nil_of_le (by omega)]
    rfl⟩
  | n + 1, j, h => by
    obtain ⟨K, hK⟩ := has_l0 a l hl n (j + 1) (by omega)
    have hj : j < l.length := by omega
    refine ⟨K + 1, fun k hk => ?_⟩
    obtain ⟨k, rfl⟩ : ∃ k', k = k' + 1 := ⟨k - 1, by omega⟩
    show spec_brHas.l0 (k + 1) _ _ _ _ = _
    rw [spec_brHas.l0, if_pos (by omega), if_pos (by omega), if_pos (by omega), rdOf_get hj, List.drop_eq_getElem_cons hj]
    by_cases he : l[j].toList = a.toList
    · rw [if_pos he, decide_eq_true]
      rw [toList_inj' he]; exact List.mem_cons_self
    · rw [if_neg he, w64' (by omega)]
      have e1 : spec_brHas.l0 k a l (l.length : Int) ((j + 1 : Nat) : Int) = some (decide (a ∈ l.drop (j + 1))) := hK k (by omega)
      rw [show ((j + 1 : Nat) : Int) = (j : Int) + 1 by omega] at e1
      rw [e1]
      congr 1
      rw [decide_eq_decide, List.mem_cons]
      constructor
      · exact .inr
      · rintro (rfl | h)
        · exact absurd rfl he
        · exact h
theorem has_ev (a : ByteArray) (l : List ByteArray) (hl : l.length ≤ 1000000000) : Ev (fun k => spec_brHas.f k l a) (decide (a ∈ l)) := by
  have := has_l0 a l hl l.length 0 rfl
  rwa [List.drop_zero] at this
abbrev BA2 := List ByteArray × List ByteArray
def stepB (p : BA2) (s : ByteArray) : BA2 := if s ∈ p.1 then p else (p.1 ++ [s], p.2 ++ [s])
def nearB (t : ByteArray) : List ByteArray := match N.parseT t with
  | some T => N.nearS T
  | none => []
structure SI (R0 : List ByteArray) (p : BA2) (P : ByteArray → Prop) : Prop where
  mem : ∀ s, s ∈ p.1 ↔ s ∈ R0 ∨ s ∈ p.2
  new : ∀ s, s ∈ p.2 ↔ ¬ s ∈ R0 ∧ P s
  nr : p.1.Nodup
  nn : p.2.Nodup
  tree : ∀ s ∈ p.1, ∃ U, s = N.tx U ∧ U.carets ≤ 5
theorem SI.small {R0 : List ByteArray} {p : BA2} {P : ByteArray → Prop} (h : SI R0 p P) : p.1.length ≤ 458330 ∧ p.2.length ≤ 458330 := by
  have h1 : p.1.length ≤ ((N.allT 5).map N.tx).length := N.nodup_len h.nr (fun s hs => by
    obtain ⟨U, rfl, hU⟩ := h.tree s hs
    exact List.mem_map_of_mem (N.allT_mem 5 U (by have := U.depth_le; omega)))
  have e : (N.allT 5).length = 458330 := by
    rw [N.allT_length, N.allT_length, N.allT_length, N.allT_length, N.allT_length]
    rfl
  rw [List.length_map, e] at h1
  have h2 : p.2.length ≤ p.1.length := N.nodup_len h.nn (fun s hs => (h.mem s).2 (.inr hs))
  omega
theorem SI.step {R0 : List ByteArray} {p : BA2} {P Q : ByteArray → Prop} (h : SI R0 p P) {s : ByteArray} (hs : ∃ U, s = N.tx U ∧ U.carets ≤ 5) (hQ : ∀ t, Q t ↔ P t ∨ t = s) : SI R0 (stepB p s) Q := by
  unfold stepB
  by_cases hm : s ∈ p.1
  · rw [if_pos hm]
    refine ⟨h.mem, fun t => ?_, h.nr, h.nn, h.tree⟩
    rw [h.new t, hQ t]
    constructor
    · rintro ⟨h1, h2⟩; exact ⟨h1, .inl h2⟩
    · rintro ⟨h1, h2 | rfl⟩
      · exact ⟨h1, h2⟩
      · rcases (h.mem _).1 hm with h3 | h3
        · exact absurd h3 h1
        · exact (h.new _).1 h3
  · rw [if_neg hm]
    refine ⟨fun t => ?_, fun t => ?_, ?_, ?_, fun t ht => ?_⟩
    · simp only [List.mem_append, List.mem_singleton]
      rw [h.mem t, or_assoc]
    · simp only [List.mem_append, List.mem_singleton]
      rw [h.new t, hQ t]
      constructor
      · rintro (⟨h1, h2⟩ | rfl)
        · exact ⟨h1, .inl h2⟩
        · exact ⟨fun h0 => hm ((h.mem _).2 (.inl h0)), .inr rfl⟩
      · rintro ⟨h1, h2 | rfl⟩
        · exact .inl ⟨h1, h2⟩
        · exact .inr rfl
    · exact List.nodup_append.2 ⟨h.nr, by simp, fun x hx y hy e => hm (by cases List.mem_singleton.1 hy; exact e ▸ hx)⟩
    · exact List.nodup_append.2 ⟨h.nn, by simp, fun x hx y hy e => hm ((h.mem _).2 (.inr (by cases List.mem_singleton.1 hy; exact e ▸ hx)))⟩
    · rcases List.mem_append.1 ht with ht | ht
      · exact h.tree t ht
      · cases List.mem_singleton.1 ht; exact hs
theorem SI.iff {R0 : List ByteArray} {p : BA2} {P Q : ByteArray → Prop} (h : SI R0 p P) (hQ : ∀ t, Q t ↔ P t) : SI R0 p Q := ⟨h.mem, fun s => by rw [h.new s, hQ s], h.nr, h.nn, h.tree⟩
theorem SI.fold {R0 : List ByteArray} : ∀ (l : List ByteArray) {p : BA2} {P Q : ByteArray → Prop}, SI R0 p P → (∀ s ∈ l, ∃ U, s = N.tx U ∧ U.carets ≤ 5) → (∀ t, Q t ↔ P t ∨ t ∈ l) → SI R0 (l.foldl stepB p) Q
  | [], p, P, Q, h, _, hQ => h.iff (fun t => by rw [hQ t]; simp)
  | s :: l, p, P, Q, h, hl, hQ => SI.fold l (P := fun t => P t ∨ t = s) (h.step (hl s List.mem_cons_self) (fun t => Iff.rfl)) (fun t ht => hl t (List.mem_cons_of_mem _ ht)) (fun t => by rw [hQ t, List.mem_cons, or_assoc])
theorem l2_ev (b : ByteArray) (r : Int) (R0 : List ByteArray) (S : List ByteArray) (i : Int) (M : List ByteArray) (hM : M.length ≤ 1000) (hT : ∀ s ∈ M, ∃ U, s = N.tx U ∧ U.carets ≤ 5) (v : Int × Bool) : ∀ (n j : Nat) (p : BA2) (P : ByteArray → Prop), n + j = M.length → SI R0 p P →
    Ev (fun k => spec_RotationDistance.l1 k b ((M.drop j).foldl stepB p).1 r ((M.drop j).foldl stepB p).2 S (S.length : Int) (wrap64 (i + 1))) v →
    Ev (fun k => spec_RotationDistance.l2 k b p.1 r p.2 S (S.length : Int) i M (M.length : Int) (j : Int)) v
  | 0, j, p, P, h, hI, ⟨K, hK⟩ => ⟨K + 1, fun k hk => by
    obtain ⟨k, rfl⟩ : ∃ k', k = k' + 1 := ⟨k - 1, by omega⟩
    show spec_RotationDistance.l2 (k + 1) _ _ _ _ _ _ _ _ _ _ = _
    rw [spec_RotationDistance.l2, if_neg (by omega)]
    rw [List.drop_eq_nil_of_le (by omega)] at hK
    exact hK k (by omega)⟩
  | n + 1, j, p, P, h, hI, hK => by
    have hj : j < M.length := by omega
    obtain ⟨hp1, hp2⟩ := hI.small
    rw [List.drop_eq_getElem_cons hj, List.foldl_cons] at hK
    obtain ⟨K1, hK1⟩ := l2_ev b r R0 S i M hM hT v n (j + 1) (stepB p M[j]) (fun t => P t ∨ t = M[j]) (by omega) (hI.step (hT _ (List.getElem_mem hj)) (fun t => Iff.rfl)) hK
    obtain ⟨K2, hK2⟩ := has_ev M[j] p.1 (by omega)
    refine ⟨K1 + K2 + 1, fun k hk => ?_⟩
    obtain ⟨k, rfl⟩ : ∃ k', k = k' + 1 := ⟨k - 1, by omega⟩
    have e1 := hK1 k (by omega)
    have e2 : spec_brHas.f k p.1 M[j] = some (decide (M[j] ∈ p.1)) := hK2 k (by omega)
    rw [show ((j + 1 : Nat) : Int) = (j : Int) + 1 by omega] at e1
    show spec_RotationDistance.l2 (k + 1) _ _ _ _ _ _ _ _ _ _ = _
    rw [spec_RotationDistance.l2, if_pos (by omega), if_pos (by omega), if_pos (by omega), rdOf_get hj, e2, Option.bind_some, w64' (by omega)]
    unfold stepB at e1
    by_cases hm : M[j] ∈ p.1
    · rw [if_pos (decide_eq_true hm)]
      rw [if_pos hm] at e1
      exact e1
    · rw [if_neg (fun h => hm (of_decide_eq_true h)), if_pos (by omega), if_pos (by omega)]
      rw [if_neg hm] at e1
      exact e1
theorem l1_ev (b : ByteArray) (r : Nat) (hr : r ≤ 1000) (R0 : List ByteArray) (S : List ByteArray) (hS : S.length ≤ 458330) (hT : ∀ s ∈ S, ∃ U, s = N.tx U ∧ U.carets ≤ 5) (v : Int × Bool) : ∀ (n i : Nat) (p : BA2) (P : ByteArray → Prop), n + i = S.length → SI R0 p P →
    (∀ q : BA2, SI R0 q (fun s => P s ∨ ∃ t ∈ S.drop i, s ∈ nearB t) → Ev (fun k => spec_RotationDistance.l0 k b q.1 q.2 ((r + 1 : Nat) : Int)) v) →
    Ev (fun k => spec_RotationDistance.l1 k b p.1 (r : Int) p.2 S (S.length : Int) (i : Int)) v
  | 0, i, p, P, h, hI, hq => by
    obtain ⟨K, hK⟩ := hq p (hI.iff (fun t => by rw [List.drop_eq_nil_of_le (by omega)]; simp))
    refine ⟨K + 1, fun k hk => ?_⟩
    obtain ⟨k, rfl⟩ : ∃ k', k = k' + 1 := ⟨k - 1, by omega⟩
    show spec_RotationDistance.l1 (k + 1) _ _ _ _ _ _ _ = _
    rw [spec_RotationDistance.l1, if_neg (by omega), w64' (by omega)]
    exact hK k (by omega)
  | n + 1, i, p, P, h, hI, hq => by
    have hi : i < S.length := by omega
    obtain ⟨T, eT, hT5⟩ := hT _ (List.getElem_mem hi)
    have hnb : nearB S[i] = N.nearS T := by unfold nearB; rw [eT, N.parseT_tx]
    have hf : spec_brNear.f S[i] = some (nearB S[i]) := by
      rw [hnb]; unfold spec_brNear.f; rw [eT, N.parseT_tx, Option.bind_some, if_pos (by omega)]
    have hM : (nearB S[i]).length ≤ 1000 := by rw [hnb, N.nearS_length]; omega
    have hMT : ∀ s ∈ nearB S[i], ∃ U, s = N.tx U ∧ U.carets ≤ 5 := fun s hs => by
      rw [hnb] at hs
      obtain ⟨U, hU, rfl⟩ := N.nearS_mem.1 hs
      exact ⟨U, rfl, by rw [N.near_carets hU]; exact hT5⟩
    have hI2 := SI.fold (nearB S[i]) (Q := fun s => P s ∨ s ∈ nearB S[i]) hI hMT (fun t => Iff.rfl)
    have IH := l1_ev b r hr R0 S hS hT v n (i + 1) _ _ (by omega) hI2 (fun q hQ => hq q (hQ.iff (fun t => by
      rw [List.drop_eq_getElem_cons hi]
      constructor
      · rintro (h | ⟨u, hu, hm⟩)
        · exact .inl (.inl h)
        · rcases List.mem_cons.1 hu with rfl | hu
          · exact .inl (.inr hm)
          · exact .inr ⟨u, hu, hm⟩
      · rintro ((h | h) | ⟨u, hu, hm⟩)
        · exact .inl h
        · exact .inr ⟨_, List.mem_cons_self, h⟩
        · exact .inr ⟨u, List.mem_cons_of_mem _ hu, hm⟩)))
    have L2 := l2_ev b (r : Int) R0 S (i : Int) (nearB S[i]) hM hMT v (nearB S[i]).length 0 p P rfl hI (by
      rw [List.drop_zero, w64' (by omega)]
      exact IH)
    obtain ⟨K, hK⟩ := L2
    refine ⟨K + 1, fun k hk => ?_⟩
    obtain ⟨k, rfl⟩ : ∃ k', k = k' + 1 := ⟨k - 1, by omega⟩
    show spec_RotationDistance.l1 (k + 1) _ _ _ _ _ _ _ = _
    rw [spec_RotationDistance.l1, if_pos (by omega), if_pos (by omega), if_pos (by omega), rdOf_get hi, hf, Option.bind_some]
    exact hK k (by omega)
theorem mem_parse {R : List ByteArray} {U : N.Tr} : U ∈ R.filterMap N.parseT ↔ N.tx U ∈ R := by
  rw [List.mem_filterMap]
  constructor
  · rintro ⟨s, hs, e⟩; rw [← N.parseT_some e]; exact hs
  · intro h; exact ⟨_, h, N.parseT_tx U⟩
theorem l0_ev {A B : N.Tr} {d : Nat} (hd : N.Dist A B d) (hA : A.carets ≤ 5) : ∀ (n r : Nat) (R S : List ByteArray), n + r = d → N.LV A r (R.filterMap N.parseT) (S.filterMap N.parseT) → (∀ s ∈ R, ∃ U, s = N.tx U ∧ U.carets ≤ 5) → R.Nodup → S.Nodup → (∀ s ∈ S, s ∈ R) →
    Ev (fun k => spec_RotationDistance.l0 k (N.tx B) R S (r : Int)) ((d : Int), true) := by
  intro n
  have d50 : d ≤ 50 := by
    have h1 := N.dist_bound hd
    have h2 := Nat.mul_le_mul hA hA
    omega
  have hlen : ∀ (R : List ByteArray), R.Nodup → (∀ s ∈ R, ∃ U, s = N.tx U ∧ U.carets ≤ 5) → R.length ≤ 458330 := fun R hn ht =>
    (SI.small (R0 := R) (p := (R, [])) (P := fun _ => False) ⟨fun s => by simp, fun s => by simp, hn, List.nodup_nil, ht⟩).1
  induction n with
  | zero =>
    intro r R S h hL hT hn hns hsub
    have hB : N.tx B ∈ S := mem_parse.1 ((hL.last B).2 (by rw [show r = d by omega]; exact hd))
    obtain ⟨K, hK⟩ := has_ev (N.tx B) S (by have := hlen S hns (fun s hs => hT s (hsub s hs)); omega)
    refine ⟨K + 1, fun k hk => ?_⟩
    obtain ⟨k, rfl⟩ : ∃ k', k = k' + 1 := ⟨k - 1, by omega⟩
    show spec_RotationDistance.l0 (k + 1) _ _ _ _ = _
    have hpos := List.length_pos_of_mem hB
    rw [spec_RotationDistance.l0, if_pos (by omega), show spec_brHas.f k S (N.tx B) = some (decide (N.tx B ∈ S)) from hK k (by omega), Option.bind_some, if_pos (decide_eq_true hB), show r = d by omega]
  | succ n ih =>
    intro r R S h hL hT hn hns hsub
    have hB : ¬ N.tx B ∈ S := fun hm => by
      have := (hL.last B).1 (mem_parse.2 hm)
      have := this.uniq hd
      omega
    have hpos : 0 < S.length := by
      apply Nat.pos_of_ne_zero
      intro h0
      have : S = [] := List.length_eq_zero_iff.1 h0
      have := hL.empty (by rw [this]; rfl) hd
      omega
    have hTS : ∀ s ∈ S, ∃ U, s = N.tx U ∧ U.carets ≤ 5 := fun s hs => hT s (hsub s hs)
    have hSl := hlen S hns hTS
    obtain ⟨K, hK⟩ := has_ev (N.tx B) S (by omega)
    have L1 := l1_ev (N.tx B) r (by omega) R S hSl hTS ((d : Int), true) S.length 0 (R, []) (fun _ => False) rfl
      ⟨fun s => by simp, fun s => by simp, hn, List.nodup_nil, hT⟩ (fun q hq => by
        refine ih (r + 1) q.1 q.2 (by omega) ?_ hq.tree hq.nr hq.nn (fun s hs => (hq.mem s).2 (.inr hs))
        refine hL.next (fun U => ?_) (fun U => ?_)
        · rw [mem_parse, mem_parse, mem_parse, hq.mem]
        · rw [mem_parse, mem_parse, hq.new]
          simp only [false_or, List.drop_zero]
          constructor
          · rintro ⟨h1, t, ht, hm⟩
            obtain ⟨M, rfl, _⟩ := hTS t ht
            refine ⟨h1, M, mem_parse.2 ht, ?_⟩
            unfold nearB at hm
            rw [N.parseT_tx] at hm
            obtain ⟨V, hV, e⟩ := N.nearS_mem.1 hm
            exact N.tx_inj e ▸ hV
          · rintro ⟨h1, M, hM, hU⟩
            refine ⟨h1, N.tx M, mem_parse.1 hM, ?_⟩
            unfold nearB
            rw [N.parseT_tx]
            exact N.nearS_mem.2 ⟨U, hU, rfl⟩)
    obtain ⟨K1, hK1⟩ := L1
    refine ⟨K + K1 + 1, fun k hk => ?_⟩
    obtain ⟨k, rfl⟩ : ∃ k', k = k' + 1 := ⟨k - 1, by omega⟩
    show spec_RotationDistance.l0 (k + 1) _ _ _ _ = _
    rw [spec_RotationDistance.l0, if_pos (by omega), show spec_brHas.f k S (N.tx B) = some (decide (N.tx B ∈ S)) from hK k (by omega), Option.bind_some, if_neg (fun h => hB (of_decide_eq_true h))]
    exact hK1 k (by omega)
theorem anyT_pairT {m : Nat} {s t : ByteArray} (hm : m ≤ 8) : N.pairT s t = none → N.anyT m s t = none := by
  intro h
  cases e : N.anyT m s t with
  | none => rfl
  | some p =>
    obtain ⟨rfl, rfl, h1, h2⟩ := N.anyT_some e
    rw [N.pairT_yes h1 (by omega)] at h
    cases h
theorem specRot_ev (s t : ByteArray) : ∃ v, impl_RotationDistance.f s t = some v ∧ Ev (fun k => spec_RotationDistance.f k s t) v := by
  refine ⟨_, rfl, ?_⟩
  cases e : N.pairT s t with
  | none =>
    rw [anyT_pairT (by omega) e]
    refine ⟨1, fun k hk => ?_⟩
    obtain ⟨k, rfl⟩ : ∃ k', k = k' + 1 := ⟨k - 1, by omega⟩
    show spec_RotationDistance.f (k + 1) _ _ = _
    unfold spec_RotationDistance.f spec_brBoth.f
    rw [e]
    simp [spec_RotationDistance.j0]
  | some p =>
    obtain ⟨A, B⟩ := p
    obtain ⟨rfl, rfl, h1, h2⟩ := N.pairT_some e
    have hb : spec_brBoth.f (N.tx A) (N.tx B) = some true := by unfold spec_brBoth.f; rw [e]; rfl
    have hc : spec_trCarets.f (N.tx A) = some (A.carets : Int) := by unfold spec_trCarets.f; rw [N.parseT_tx, Option.bind_some, if_pos (by simp only at h1 h2; omega)]
    simp only at h1 h2 hb hc ⊢
    by_cases h5 : B.carets ≤ 5
    · rw [N.anyT_yes h1 h5]
      have hd : N.Dist A B (N.distN A B) := N.distN_dist h1.symm (by omega)
      obtain ⟨K, hK⟩ := l0_ev hd (by omega) (N.distN A B) 0 [N.tx A] [N.tx A] rfl (by
          have : [N.tx A].filterMap N.parseT = [A] := by simp [N.parseT_tx]
          rw [this]; exact N.LV.first A) (fun s hs => ⟨A, List.mem_singleton.1 hs, by omega⟩) (by simp) (by simp) (fun s hs => hs)
      refine ⟨K + 1, fun k hk => ?_⟩
      obtain ⟨k, rfl⟩ : ∃ k', k = k' + 1 := ⟨k - 1, by omega⟩
      show spec_RotationDistance.f (k + 1) _ _ = _
      unfold spec_RotationDistance.f
      rw [hb, Option.bind_some, if_pos rfl, hc, Option.bind_some, decide_eq_false (by omega), spec_RotationDistance.j0, if_neg (by decide)]
      exact hK k (by omega)
    · have hn : N.anyT 5 (N.tx A) (N.tx B) = none := by
        unfold N.anyT; rw [N.parseT_tx, N.parseT_tx]; exact if_neg (fun h => h5 h.2)
      rw [hn]
      refine ⟨1, fun k hk => ?_⟩
      obtain ⟨k, rfl⟩ : ∃ k', k = k' + 1 := ⟨k - 1, by omega⟩
      show spec_RotationDistance.f (k + 1) _ _ = _
      unfold spec_RotationDistance.f
      rw [hb, Option.bind_some, if_pos rfl, hc, Option.bind_some, decide_eq_true (by omega), spec_RotationDistance.j0, if_pos rfl]
end Go.Proofs.Ytijnadjgmmednaa.PA
namespace Go.Proofs.Ytijnadjgmmednaa.Pure
open Go.RowKit Go.Proofs.Ytijnadjgmmednaa.PA Go.Proofs.YtijnadjgmmednaaW.PrintWords Go.Proofs.YtijnadjgmmednaaW.PrintLast
theorem FnExactRotationDistance : laws_FnExactRotationDistance.Pure := by
  intro a0 a1 _ _
  obtain ⟨v, h1, K, h2⟩ := specRot_ev a0 a1
  refine ⟨K, ?_⟩
  have h2 : spec_RotationDistance.f K a0 a1 = some v := h2 K (Nat.le_refl _)
  unfold laws_FnExactRotationDistance.f
  by_cases c0 : (a0.size : Int) > 1048576
  · rw [if_pos c0]
  · rw [if_neg c0]
    by_cases c1 : (a1.size : Int) > 1048576
    · rw [if_pos c1]
    · rw [if_neg c1, h2, Option.bind_some, h1, Option.bind_some, if_pos rfl, if_neg (by simp)]
end Go.Proofs.Ytijnadjgmmednaa.Pure
