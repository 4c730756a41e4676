import Derived.Test.YtfjhecilkeikiaaBa
import Derived.Test.YtfjhecilkeikiaaPu
import Derived.Test.YtfjhecilkeikiaaSl
import Derived.Test.YtfjhecilkeikiaaProg
import Derived.Test.YtfjhecilkeikiaaWl
import Derived.Test.YtfjhecilkeikiaaWp
import Derived.Test.YtfjhecilkeikiaaTr
import Derived.Test.YtfjhecilkeikiaaSr
import Derived.Test.YtfjhecilkeikiaaPn
import Derived.Test.YtfjhecilkeikiaaQl
import Derived.Test.YtfjhecilkeikiaaPt
import Derived.Test.YtfjhecilkeikiaaQp
import Derived.Deep.LoopGhost
import Derived.Deep.QuietTactic
import Derived.BigQuiet
import Derived.Deep.RegionHeld3
import Derived.Deep.OwnRows
/- The laws' helpers over slices of pairs. -/
namespace Go.Proofs.Ytfjhecilkeikiaa.N
open Go.RowKit
set_option linter.unusedVariables false
set_option linter.unusedSimpArgs false

theorem marksS2_step (m k : Nat) (xs : List Value) (hk : k < xs.length) : ((strs (marksS m k)) ++ xs.drop k).set k (.string (mt (m + k))) = (strs (marksS m (k + 1))) ++ xs.drop (k + 1) := by
  have h1 : (strs (marksS m k)).length = k := by rw [strs_length, marksS_length]
  rw [List.set_append_right _ _ (by omega), h1, Nat.sub_self, List.drop_eq_getElem_cons hk, List.set_cons_zero]
  simp [strs, marksS, List.range_succ]

set_option maxHeartbeats 3200000 in
set_option maxRecDepth 100000 in
theorem eqPairS_calls (l : List (ByteArray × ByteArray)) (hn : l.length < 100000000) (b1 b2 : Nat) (va vb : Value) (w : World) (ha : w.ownsRow b1 28 2 va l.length (psT l)) (hb : w.ownsRow b2 28 2 vb l.length (psT l)) :
    Calls Try.prog 23 #[va, vb] w fun e w' => e = .returned (.bool true) ∧ Ext w w' := by
  obtain ⟨A, c, rfl⟩ := row_form ha
  obtain ⟨B, d, rfl⟩ := row_form hb
  have HA := Lib.hid ha
  have HB := Lib.hid hb
  clear ha hb
  go_enter Try.func23, Try.ntmps23
  go_wp2_with fail
  go_loopw [5] (fun i wr => ∃ k : Nat, k ≤ l.length ∧ i = .int .i64 k ∧ Hid (Ext w wr)) (fun i _ => l.length - (intOf i).toNat)
  case atStart => exact ⟨0, Nat.zero_le _, rfl, Ext.refl _⟩
  case round =>
    obtain ⟨k, hk, rfl, HX⟩ := hrel
    by_cases hlt : k < l.length
    · obtain ⟨g, cap, e1, hc⟩ := new_slice_cell HA.out (by omega)
      injection e1 with e2 e3 e4
      subst e2 e4
      clear e3
      obtain ⟨g', cap', e1, hc'⟩ := new_slice_cell HB.out (by omega)
      injection e1 with e2 e3 e4
      subst e2 e4
      clear e3
      have hget := psT_get l k l[k] (List.getElem?_eq_getElem hlt)
      have d0 := HX.out.cell (hc _ _ hget.1)
      have d1 := HX.out.cell (hc _ _ hget.2)
      have d2 := HX.out.cell (hc' _ _ hget.1)
      have d3 := HX.out.cell (hc' _ _ hget.2)
      have h0 : (0 : Int) ≤ k := by omega
      have h1 : (k : Int) < l.length := by omega
      generalize l[k] = xy at *
      obtain ⟨x, y⟩ := xy
      simp only at d0 d1 d2 d3
      have CE := Lib.hid (fun W => eqPair_calls x y W)
      clear hc hc' hget HA HB
      skip
      have KX : ∀ w', Ext wr w' → w'.cell? ⟨g, k * 2, none⟩ = some (.string x) ∧ w'.cell? ⟨g, k * 2 + 1, none⟩ = some (.string y) ∧ w'.cell? ⟨g', k * 2, none⟩ = some (.string x) ∧ w'.cell? ⟨g', k * 2 + 1, none⟩ = some (.string y) := fun w' h => ⟨h.cell d0, h.cell d1, h.cell d2, h.cell d3⟩
      go_wp2_with fail
      go_region_held3 (fun w' => w'.cell? ⟨g, k * 2, none⟩ = some (.string x) ∧ w'.cell? ⟨g, k * 2 + 1, none⟩ = some (.string y) ∧ w'.cell? ⟨g', k * 2, none⟩ = some (.string x) ∧ w'.cell? ⟨g', k * 2 + 1, none⟩ = some (.string y))
        (first | with_reducible exact KX _ (Ext.refl _).drew | with_reducible exact KX _ x2 | fail)
        (first | (go_at_call 43; refine (CE.out _).mono ?_; rintro e w2 ⟨rfl, hx⟩; have x2 := (Ext.refl wr).drew.trans hx) | fail)
      have X2 := Lib.hid (HX.out.trans x2)
      clear x2 hx d0 d1 d2 d3 KX
      go_wp2_with fail
      exact ⟨⟨k + 1, by omega, by go_num, X2.out⟩, by simp [intOf]; omega⟩
    · have h1 : (l.length : Int) ≤ k := by omega
      go_wp2_with fail
      go_ret
      exact ⟨rfl, HX.out⟩

set_option maxHeartbeats 3200000 in
set_option maxRecDepth 100000 in
theorem markPairS_calls (base : Nat) (n : Nat) (xs : List Value) (m : Nat) (hm : 1 ≤ m) (hn : m + 2 * n < 100000000) (v : Value) (w : World) (ha : w.ownsRow base 28 2 v n xs) :
    Calls Try.prog 24 #[v, .int .i64 m] w fun e w' => e = .returned (.int .i64 ((m + 2 * n : Nat) : Int)) ∧ w'.ownsRow base 28 2 v n (strs (marksS m (2 * n))) ∧ w.grownBy w' v.ownBlock := by
  have b0 : (1 : Int) ≤ m ∧ (m : Int) < 1000000000 := by omega
  have hxl : xs.length = n * 2 := ha.1
  rcases Nat.eq_zero_or_pos n with hz | hz
  · subst hz
    obtain rfl := List.eq_nil_of_length_eq_zero (by simpa using hxl)
    obtain ⟨A, c, rfl⟩ := row_form ha
    have HO := Lib.hid ha
    clear ha
    have q : Hid (w.ownsRow base 28 2 (.slice A 0 c) 0 (strs (marksS m (2 * 0)))) := HO.out
    go_enter Try.func24, Try.ntmps24
    go_wp2_with fail
    go_loopw [5, 1] (fun i q wr => i = .int .i64 0 ∧ q = .int .i64 (m : Int) ∧ wr = w) (fun i _ _ => 0)
    case atStart => exact ⟨rfl, rfl, rfl⟩
    case round =>
      obtain ⟨rfl, rfl, rfl⟩ := hrel
      go_wp2_with fail
      go_ret
      exact ⟨rfl, q.out, grownBy_refl _ _⟩
  · obtain ⟨g, c, rfl, hgb⟩ := row_block ha hz
    have HA := Lib.hid ha
    clear ha
    go_enter Try.func24, Try.ntmps24
    go_wp2_with fail
    go_loopw [5, 1] (fun i q wr => ∃ k : Nat, k ≤ n ∧ i = .int .i64 k ∧ q = .int .i64 ((m + 2 * k : Nat) : Int) ∧ Hid (wr.ownsRow base 28 2 (.slice (some ⟨g, 0, none⟩) n c) n ((strs (marksS m (2 * k))) ++ xs.drop (2 * k))) ∧ Hid (w.grownBy wr (some g))) (fun i _ _ => n - (intOf i).toNat)
    case atStart => exact ⟨0, Nat.zero_le _, rfl, rfl, HA.out, grownBy_refl _ _⟩
    case round =>
      obtain ⟨k, hk, rfl, rfl, HO, HG⟩ := hrel
      by_cases hlt : k < n
      · have hl2 : 2 * k < xs.length := by omega
        have hl3 : 2 * k + 1 < xs.length := by omega
        have S1 := Lib.hid (marksS2_step m (2 * k) xs hl2)
        have S2 := Lib.hid (marksS2_step m (2 * k + 1) xs hl3)
        have h0 : (0 : Int) ≤ k := by omega
        have h1 : (k : Int) < n := by omega
        obtain ⟨q0, hq0⟩ : ∃ q : Int, ((m + 2 * k : Nat) : Int) = q := ⟨_, rfl⟩
        have q1 : (0 : Int) ≤ q0 ∧ q0 < 1000000000 := by omega
        have Q1 : Hid (q0 + 1 = ((m + (2 * k + 1) : Nat) : Int)) := by show _ = _; omega
        have Q2 : Hid (q0 + 1 + 1 = ((m + 2 * (k + 1) : Nat) : Int)) := by show _ = _; omega
        have Q0 : Hid (q0 = ((m + 2 * k : Nat) : Int)) := hq0.symm
        obtain ⟨u0, c0⟩ := row_cell HO.out (2 * k) (by omega)
        have f0 : wr.frozen? ⟨g, 2 * k, none⟩ = false := World.ownsRow.frozenAt HO.out (2 * k)
        rw [Nat.mul_comm 2 k] at c0 f0
        rw [hq0]
        clear hq0
        have CM1 : Hid (∀ W, Calls Try.prog 44 #[.int .i64 q0] W fun e w' => e = .returned (.string (mt (m + 2 * k))) ∧ Ext W w') := fun W => by rw [Q0.out]; exact markText_calls (m + 2 * k) (by omega) (by omega) W
        have CM2 : Hid (∀ W, Calls Try.prog 44 #[.int .i64 (q0 + 1)] W fun e w' => e = .returned (.string (mt (m + (2 * k + 1)))) ∧ Ext W w') := fun W => by rw [Q1.out]; exact markText_calls (m + (2 * k + 1)) (by omega) (by omega) W
        have hs0 : (⟨g, 2 * k, none⟩ : Addr) = ⟨g, k * 2, none⟩ := by rw [Nat.mul_comm]
        have hs1 : (⟨g, 2 * k + 1, none⟩ : Addr) = ⟨g, k * 2 + 1, none⟩ := by rw [Nat.mul_comm]
        have HS0 := Lib.hid hs0
        have HS1 := Lib.hid hs1
        clear hs0 hs1
        have KK : Hid (2 * k + 1 + 1 = 2 * (k + 1)) := by show _ = _; omega
        generalize mt (m + 2 * k) = t0 at *
        generalize mt (m + (2 * k + 1)) = t1 at *
        go_wp2_with fail
        refine (CM1.out _).mono ?_
        rintro e w2 ⟨rfl, x2⟩
        have O2 := row_ext HO.out x2
        have G2 := World.grownBy.trans HG.out (x2.grownBy _)
        have c2 := x2.cell c0
        have f2 := World.ownsRow.frozenAt O2 (2 * k)
        rw [HS0.out] at f2
        obtain ⟨O3, g3⟩ := World.ownsRow.stored O2 (2 * k) (.string t0)
        rw [S1.out, HS0.out] at O3
        rw [HS0.out] at g3
        have O3 := Lib.hid O3
        have G3 := Lib.hid (World.grownBy.trans G2 g3)
        clear O2 G2 g3 x2
        go_wp2_with fail
        generalize w2.setCell ⟨g, k * 2, none⟩ (.string t0) = w3 at *
        refine (CM2.out _).mono ?_
        rintro e w4 ⟨rfl, x4⟩
        have O4 := row_ext O3.out x4
        have G4 := World.grownBy.trans G3.out (x4.grownBy _)
        obtain ⟨u1, c4⟩ := row_cell O4 (2 * k + 1) (by omega)
        have f4 := World.ownsRow.frozenAt O4 (2 * k + 1)
        rw [HS1.out] at c4 f4
        obtain ⟨O5, g5⟩ := World.ownsRow.stored O4 (2 * k + 1) (.string t1)
        rw [S2.out, HS1.out, KK.out] at O5
        rw [HS1.out] at g5
        have OO := Lib.hid O5
        have GG := Lib.hid (World.grownBy.trans G4 g5)
        clear O4 G4 O5 g5 x4
        go_wp2_with fail
        rw [Q2.out]
        exact ⟨⟨k + 1, by omega, by go_num, rfl, OO.out, GG.out⟩, by simp [intOf]; omega⟩
      · have h1 : (n : Int) ≤ k := by omega
        obtain rfl : k = n := by omega
        have O4 := HO.out
        rw [List.drop_eq_nil_of_le (by omega), List.append_nil] at O4
        have O4 := Lib.hid O4
        go_wp2_with fail
        go_ret
        exact ⟨rfl, O4.out, HG.out⟩

set_option maxHeartbeats 3200000 in
set_option maxRecDepth 100000 in
theorem heldPairS_calls (base n m : Nat) (hm : 1 ≤ m) (hn : m + 2 * n < 100000000) (v : Value) (w : World) (ha : w.ownsRow base 28 2 v n (strs (marksS m (2 * n)))) :
    Calls Try.prog 25 #[v, .int .i64 m] w fun e w' => e = .returned (.int .i64 ((m + 2 * n : Nat) : Int)) ∧ Ext w w' := by
  have b0 : (1 : Int) ≤ m ∧ (m : Int) < 1000000000 := by omega
  obtain ⟨A, c, rfl⟩ := row_form ha
  have HA := Lib.hid ha
  clear ha
  go_enter Try.func25, Try.ntmps25
  go_wp2_with fail
  go_loopw [5, 1] (fun i q wr => ∃ k : Nat, k ≤ n ∧ i = .int .i64 k ∧ q = .int .i64 ((m + 2 * k : Nat) : Int) ∧ Hid (Ext w wr)) (fun i _ _ => n - (intOf i).toNat)
  case atStart => exact ⟨0, Nat.zero_le _, rfl, rfl, Ext.refl _⟩
  case round =>
    obtain ⟨k, hk, rfl, rfl, HX⟩ := hrel
    by_cases hlt : k < n
    · obtain ⟨g, cap, e1, hc⟩ := new_slice_cell HA.out (by omega)
      injection e1 with e2 e3 e4
      subst e2 e4
      clear e3
      have d0 := HX.out.cell (hc (2 * k) _ (marksS_get m (2 * n) (2 * k) (by omega)))
      have d1 := HX.out.cell (hc (2 * k + 1) _ (marksS_get m (2 * n) (2 * k + 1) (by omega)))
      have h0 : (0 : Int) ≤ k := by omega
      have h1 : (k : Int) < n := by omega
      obtain ⟨q0, hq0⟩ : ∃ q : Int, ((m + 2 * k : Nat) : Int) = q := ⟨_, rfl⟩
      have q1 : (0 : Int) ≤ q0 ∧ q0 < 1000000000 := by omega
      have Q1 : Hid (q0 + 1 = ((m + (2 * k + 1) : Nat) : Int)) := by show _ = _; omega
      have Q2 : Hid (q0 + 1 + 1 = ((m + 2 * (k + 1) : Nat) : Int)) := by show _ = _; omega
      have Q0 : Hid (q0 = ((m + 2 * k : Nat) : Int)) := hq0.symm
      rw [Nat.mul_comm 2 k] at d0 d1
      rw [show m + k * 2 = m + 2 * k by omega] at d0
      rw [show m + (k * 2 + 1) = m + (2 * k + 1) by omega] at d1
      rw [hq0]
      clear hc HA hq0
      have CM1 : Hid (∀ W, Calls Try.prog 44 #[.int .i64 q0] W fun e w' => e = .returned (.string (mt (m + 2 * k))) ∧ Ext W w') := fun W => by rw [Q0.out]; exact markText_calls (m + 2 * k) (by omega) (by omega) W
      have CM2 : Hid (∀ W, Calls Try.prog 44 #[.int .i64 (q0 + 1)] W fun e w' => e = .returned (.string (mt (m + (2 * k + 1)))) ∧ Ext W w') := fun W => by rw [Q1.out]; exact markText_calls (m + (2 * k + 1)) (by omega) (by omega) W
      generalize mt (m + 2 * k) = t0 at *
      generalize mt (m + (2 * k + 1)) = t1 at *
      have KX : ∀ w', Ext wr w' → w'.cell? ⟨g, k * 2, none⟩ = some (.string t0) := fun w' h => h.cell d0
      go_wp2_with fail
      go_region_held3 (fun w' => w'.cell? ⟨g, k * 2, none⟩ = some (.string t0))
        (first | with_reducible exact KX _ (Ext.refl _).drew | with_reducible exact KX _ x2 | fail)
        (first | (go_at_call 44; refine (CM1.out _).mono ?_; rintro e w2 ⟨rfl, hx⟩; have x2 := (Ext.refl wr).drew.trans hx) | fail)
      have X2 := Lib.hid x2
      clear hx x2 KX
      have KX : ∀ w', Ext w2 w' → w'.cell? ⟨g, k * 2 + 1, none⟩ = some (.string t1) := fun w' h => (X2.out.trans h).cell d1
      clear d0
      go_wp2_with fail
      go_region_held3 (fun w' => w'.cell? ⟨g, k * 2 + 1, none⟩ = some (.string t1))
        (first | with_reducible exact KX _ (Ext.refl _).drew | with_reducible exact KX _ x3 | fail)
        (first | (go_at_call 44; refine (CM2.out _).mono ?_; rintro e w3 ⟨rfl, hx⟩; have x3 := (Ext.refl w2).drew.trans hx) | fail)
      have X3 := Lib.hid (HX.out.trans (X2.out.trans x3))
      clear hx x3 KX d1
      go_wp2_with fail
      rw [Q2.out]
      exact ⟨⟨k + 1, by omega, by go_num, rfl, X3.out⟩, by simp [intOf]; omega⟩
    · have h1 : (n : Int) ≤ k := by omega
      obtain rfl : k = n := by omega
      go_wp2_with fail
      go_ret
      exact ⟨rfl, HX.out⟩
end Go.Proofs.Ytfjhecilkeikiaa.N
