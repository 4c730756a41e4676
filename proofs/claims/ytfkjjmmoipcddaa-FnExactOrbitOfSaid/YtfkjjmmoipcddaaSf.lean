import Derived.Test.YtfkjjmmoipcddaaBa
import Derived.Test.YtfkjjmmoipcddaaPu
import Derived.Test.YtfkjjmmoipcddaaSl
import Derived.Test.YtfkjjmmoipcddaaProg
import Derived.Test.YtfkjjmmoipcddaaWl
import Derived.Test.YtfkjjmmoipcddaaWp
import Derived.Test.YtfkjjmmoipcddaaTr
import Derived.Test.YtfkjjmmoipcddaaFa
import Derived.Test.YtfkjjmmoipcddaaFb
import Derived.Test.YtfkjjmmoipcddaaFc
import Derived.Test.YtfkjjmmoipcddaaFg
import Derived.Test.YtfkjjmmoipcddaaFj
import Derived.Deep.LoopGhost
import Derived.Deep.QuietTactic
import Derived.BigQuiet
import Derived.Deep.RegionHeld3
import Derived.Deep.OwnRows
/- The laws' helpers over slices of fractions. -/
namespace Go.Proofs.Ytfkjjmmoipcddaa.N
open Go.RowKit
set_option linter.unusedVariables false
set_option linter.unusedSimpArgs false

theorem marksI2_step (m k : Nat) (xs : List Value) (hk : k < xs.length) : ((ints (marksI m k)) ++ xs.drop k).set k (.int .i64 ((m + k : Nat) : Int)) = (ints (marksI m (k + 1))) ++ xs.drop (k + 1) := by
  have h1 : (ints (marksI m k)).length = k := by simp [ints, marksI]
  rw [List.set_append_right _ _ (by omega), h1, Nat.sub_self, List.drop_eq_getElem_cons hk, List.set_cons_zero]
  simp [ints, marksI, List.range_succ]
theorem row_form {w : World} {base : Nat} {e : TypeId} {sz : Nat} {v : Value} {n : Nat} {xs : List Value} (h : w.ownsRow base e sz v n xs) : ∃ A c, v = .slice A n c := by
  rcases h.2 with ⟨rfl, h0⟩ | ⟨g, cap, cur, rfl, _⟩
  · exact ⟨none, 0, by rw [h0]⟩
  · exact ⟨_, cap, rfl⟩
theorem row_block {w : World} {base : Nat} {e : TypeId} {sz : Nat} {v : Value} {n : Nat} {xs : List Value} (h : w.ownsRow base e sz v n xs) (hn : 0 < n) : ∃ g c, v = .slice (some ⟨g, 0, none⟩) n c ∧ base ≤ g := by
  rcases h.2 with ⟨rfl, h0⟩ | ⟨g, cap, cur, rfl, hb, _⟩
  · omega
  · exact ⟨g, cap, rfl, hb⟩
theorem row_cell {w : World} {base : Nat} {e : TypeId} {sz n g c : Nat} {xs : List Value} (h : w.ownsRow base e sz (.slice (some ⟨g, 0, none⟩) n c) n xs) (j : Nat) (hj : j < n * sz) : ∃ u, w.cell? ⟨g, j, none⟩ = some u := by
  have hl : j < xs.length := by rw [h.1]; exact hj
  exact ⟨xs[j], by rw [← add_plain]; exact h.cells rfl j _ (List.getElem?_eq_getElem hl)⟩

set_option maxHeartbeats 3200000 in
set_option maxRecDepth 100000 in
theorem eqFractionS_calls (l : List (Nat × Nat)) (hn : l.length < 100000000) (b1 b2 : Nat) (va vb : Value) (w : World) (ha : w.ownsRow b1 61 2 va l.length (frs l)) (hb : w.ownsRow b2 61 2 vb l.length (frs l)) :
    Calls Try.prog 50 #[va, vb] w fun e w' => e = .returned (.bool true) ∧ Ext w w' := by
  obtain ⟨A, c, rfl⟩ := row_form ha
  obtain ⟨B, d, rfl⟩ := row_form hb
  have HA := Lib.hid ha
  have HB := Lib.hid hb
  clear ha hb
  go_enter Try.func50, Try.ntmps50
  go_wp2_with fail
  go_loopw [5] (fun i wr => ∃ k : Nat, k ≤ l.length ∧ i = .int .i64 k ∧ Hid (Ext w wr)) (fun i _ => l.length - (intOf i).toNat)
  case atStart => exact ⟨0, Nat.zero_le _, rfl, Ext.refl _⟩
  case round =>
    obtain ⟨k, hk, rfl, HX⟩ := hrel
    by_cases hlt : k < l.length
    · obtain ⟨g, cap, e1, hc⟩ := new_slice_cell HA.out (by omega)
      injection e1 with e2 e3 e4
      subst e2 e4
      clear e3
      obtain ⟨g', cap', e1, hc'⟩ := new_slice_cell HB.out (by omega)
      injection e1 with e2 e3 e4
      subst e2 e4
      clear e3
      have hget := frs_get l k l[k] (List.getElem?_eq_getElem hlt)
      have d0 := HX.out.cell (hc _ _ hget.1)
      have d1 := HX.out.cell (hc _ _ hget.2)
      have d2 := HX.out.cell (hc' _ _ hget.1)
      have d3 := HX.out.cell (hc' _ _ hget.2)
      have h0 : (0 : Int) ≤ k := by omega
      have h1 : (k : Int) < l.length := by omega
      generalize l[k] = xy at *
      obtain ⟨x, y⟩ := xy
      simp only at d0 d1 d2 d3
      have CE := Lib.hid (fun W => eqFraction_calls (x : Int) (y : Int) W)
      clear hc hc' hget HA HB
      skip
      have KX : ∀ w', Ext wr w' → w'.cell? ⟨g, k * 2, none⟩ = some (.int .i64 (x : Nat)) ∧ w'.cell? ⟨g, k * 2 + 1, none⟩ = some (.int .i64 (y : Nat)) ∧ w'.cell? ⟨g', k * 2, none⟩ = some (.int .i64 (x : Nat)) ∧ w'.cell? ⟨g', k * 2 + 1, none⟩ = some (.int .i64 (y : Nat)) := fun w' h => ⟨h.cell d0, h.cell d1, h.cell d2, h.cell d3⟩
      go_wp2_with fail
      go_region_held3 (fun w' => w'.cell? ⟨g, k * 2, none⟩ = some (.int .i64 (x : Nat)) ∧ w'.cell? ⟨g, k * 2 + 1, none⟩ = some (.int .i64 (y : Nat)) ∧ w'.cell? ⟨g', k * 2, none⟩ = some (.int .i64 (x : Nat)) ∧ w'.cell? ⟨g', k * 2 + 1, none⟩ = some (.int .i64 (y : Nat)))
        (first | with_reducible exact KX _ (Ext.refl _).drew | with_reducible exact KX _ x2 | fail)
        (first | (go_at_call 47; refine (CE.out _).mono ?_; rintro e w2 ⟨rfl, hx⟩; have x2 := (Ext.refl wr).drew.trans hx) | fail)
      have X2 := Lib.hid (HX.out.trans x2)
      clear x2 hx d0 d1 d2 d3 KX
      go_wp2_with fail
      exact ⟨⟨k + 1, by omega, by go_num, X2.out⟩, by simp [intOf]; omega⟩
    · have h1 : (l.length : Int) ≤ k := by omega
      go_wp2_with fail
      go_ret
      exact ⟨rfl, HX.out⟩

set_option maxHeartbeats 3200000 in
set_option maxRecDepth 100000 in
theorem markFractionS_calls (base : Nat) (n : Nat) (xs : List Value) (m : Nat) (hm : 1 ≤ m) (hn : m + 2 * n < 100000000) (v : Value) (w : World) (ha : w.ownsRow base 61 2 v n xs) :
    Calls Try.prog 51 #[v, .int .i64 m] w fun e w' => e = .returned (.int .i64 ((m + 2 * n : Nat) : Int)) ∧ w'.ownsRow base 61 2 v n (ints (marksI m (2 * n))) ∧ w.grownBy w' v.ownBlock := by
  have b0 : (1 : Int) ≤ m ∧ (m : Int) < 1000000000 := by omega
  have hxl : xs.length = n * 2 := ha.1
  rcases Nat.eq_zero_or_pos n with hz | hz
  · subst hz
    obtain rfl := List.eq_nil_of_length_eq_zero (by simpa using hxl)
    obtain ⟨A, c, rfl⟩ := row_form ha
    have HO := Lib.hid ha
    clear ha
    have q : Hid (w.ownsRow base 61 2 (.slice A 0 c) 0 (ints (marksI m (2 * 0)))) := HO.out
    go_enter Try.func51, Try.ntmps51
    go_wp2_with fail
    go_loopw [5, 1] (fun i q wr => i = .int .i64 0 ∧ q = .int .i64 (m : Int) ∧ wr = w) (fun i _ _ => 0)
    case atStart => exact ⟨rfl, rfl, rfl⟩
    case round =>
      obtain ⟨rfl, rfl, rfl⟩ := hrel
      go_wp2_with fail
      go_ret
      exact ⟨rfl, q.out, grownBy_refl _ _⟩
  · obtain ⟨g, c, rfl, hgb⟩ := row_block ha hz
    have HA := Lib.hid ha
    clear ha
    go_enter Try.func51, Try.ntmps51
    go_wp2_with fail
    go_loopw [5, 1] (fun i q wr => ∃ k : Nat, k ≤ n ∧ i = .int .i64 k ∧ q = .int .i64 ((m + 2 * k : Nat) : Int) ∧ Hid (wr.ownsRow base 61 2 (.slice (some ⟨g, 0, none⟩) n c) n ((ints (marksI m (2 * k))) ++ xs.drop (2 * k))) ∧ Hid (w.grownBy wr (some g))) (fun i _ _ => n - (intOf i).toNat)
    case atStart => exact ⟨0, Nat.zero_le _, rfl, rfl, HA.out, grownBy_refl _ _⟩
    case round =>
      obtain ⟨k, hk, rfl, rfl, HO, HG⟩ := hrel
      by_cases hlt : k < n
      · have hl2 : 2 * k < xs.length := by omega
        have hl3 : 2 * k + 1 < xs.length := by omega
        have S1 := Lib.hid (marksI2_step m (2 * k) xs hl2)
        have S2 := Lib.hid (marksI2_step m (2 * k + 1) xs hl3)
        have h0 : (0 : Int) ≤ k := by omega
        have h1 : (k : Int) < n := by omega
        obtain ⟨q0, hq0⟩ : ∃ q : Int, ((m + 2 * k : Nat) : Int) = q := ⟨_, rfl⟩
        have q1 : (0 : Int) ≤ q0 ∧ q0 < 1000000000 := by omega
        have Q1 : Hid (q0 + 1 = ((m + (2 * k + 1) : Nat) : Int)) := by show _ = _; omega
        have Q2 : Hid (q0 + 1 + 1 = ((m + 2 * (k + 1) : Nat) : Int)) := by show _ = _; omega
        have Q0 : Hid (q0 = ((m + 2 * k : Nat) : Int)) := hq0.symm
        obtain ⟨u0, c0⟩ := row_cell HO.out (2 * k) (by omega)
        have f0 : wr.frozen? ⟨g, 2 * k, none⟩ = false := World.ownsRow.frozenAt HO.out (2 * k)
        rw [Nat.mul_comm 2 k] at c0 f0
        rw [hq0]
        clear hq0
        obtain ⟨O1, g1⟩ := World.ownsRow.stored HO.out (2 * k) (.int .i64 q0)
        obtain ⟨u1, c1⟩ := row_cell O1 (2 * k + 1) (by omega)
        have f1 := World.ownsRow.frozenAt O1 (2 * k + 1)
        obtain ⟨O2, g2⟩ := World.ownsRow.stored O1 (2 * k + 1) (.int .i64 (q0 + 1))
        have HH : Hid (∀ z : Int, z = ((m + 2 * k : Nat) : Int) → ((((ints (marksI m (2 * k))) ++ xs.drop (2 * k)).set (2 * k) (.int .i64 z)).set (2 * k + 1) (.int .i64 (z + 1))) = (ints (marksI m (2 * (k + 1)))) ++ xs.drop (2 * (k + 1))) := by
          intro z hz
          have hz1 : z + 1 = ((m + (2 * k + 1) : Nat) : Int) := by omega
          rw [hz1, hz, S1.out, S2.out, show 2 * k + 1 + 1 = 2 * (k + 1) by omega]
        rw [HH.out q0 Q0.out] at O2
        rw [Nat.mul_comm 2 k] at c1 f1
        have OO := Lib.hid O2
        have GG := Lib.hid (World.grownBy.trans (World.grownBy.trans HG.out g1) g2)
        clear O1 g1 O2 g2 HH S1 S2
        rw [Nat.mul_comm 2 k] at OO GG
        go_wp2_with fail
        rw [Q2.out]
        exact ⟨⟨k + 1, by omega, by go_num, rfl, OO.out, GG.out⟩, by simp [intOf]; omega⟩
      · have h1 : (n : Int) ≤ k := by omega
        obtain rfl : k = n := by omega
        have O4 := HO.out
        rw [List.drop_eq_nil_of_le (by omega), List.append_nil] at O4
        have O4 := Lib.hid O4
        go_wp2_with fail
        go_ret
        exact ⟨rfl, O4.out, HG.out⟩

set_option maxHeartbeats 3200000 in
set_option maxRecDepth 100000 in
theorem heldFractionS_calls (base n m : Nat) (hm : 1 ≤ m) (hn : m + 2 * n < 100000000) (v : Value) (w : World) (ha : w.ownsRow base 61 2 v n (ints (marksI m (2 * n)))) :
    Calls Try.prog 52 #[v, .int .i64 m] w fun e w' => e = .returned (.int .i64 ((m + 2 * n : Nat) : Int)) ∧ Ext w w' := by
  have b0 : (1 : Int) ≤ m ∧ (m : Int) < 1000000000 := by omega
  obtain ⟨A, c, rfl⟩ := row_form ha
  have HA := Lib.hid ha
  clear ha
  go_enter Try.func52, Try.ntmps52
  go_wp2_with fail
  go_loopw [5, 1] (fun i q wr => ∃ k : Nat, k ≤ n ∧ i = .int .i64 k ∧ q = .int .i64 ((m + 2 * k : Nat) : Int) ∧ Hid (Ext w wr)) (fun i _ _ => n - (intOf i).toNat)
  case atStart => exact ⟨0, Nat.zero_le _, rfl, rfl, Ext.refl _⟩
  case round =>
    obtain ⟨k, hk, rfl, rfl, HX⟩ := hrel
    by_cases hlt : k < n
    · obtain ⟨g, cap, e1, hc⟩ := new_slice_cell HA.out (by omega)
      injection e1 with e2 e3 e4
      subst e2 e4
      clear e3
      have d0 := HX.out.cell (hc (2 * k) _ (marksI_get m (2 * n) (2 * k) (by omega)))
      have d1 := HX.out.cell (hc (2 * k + 1) _ (marksI_get m (2 * n) (2 * k + 1) (by omega)))
      have h0 : (0 : Int) ≤ k := by omega
      have h1 : (k : Int) < n := by omega
      obtain ⟨q0, hq0⟩ : ∃ q : Int, ((m + 2 * k : Nat) : Int) = q := ⟨_, rfl⟩
      have q1 : (0 : Int) ≤ q0 ∧ q0 < 1000000000 := by omega
      have Q1 : Hid (q0 + 1 = ((m + (2 * k + 1) : Nat) : Int)) := by show _ = _; omega
      have Q2 : Hid (q0 + 1 + 1 = ((m + 2 * (k + 1) : Nat) : Int)) := by show _ = _; omega
      have Q0 : Hid (q0 = ((m + 2 * k : Nat) : Int)) := hq0.symm
      rw [Nat.mul_comm 2 k] at d0 d1
      rw [show m + k * 2 = m + 2 * k by omega, hq0] at d0
      rw [show m + (k * 2 + 1) = m + (2 * k + 1) by omega, ← Q1.out] at d1
      rw [hq0]
      clear hc HA hq0
      go_wp2_with fail
      rw [Q2.out]
      exact ⟨⟨k + 1, by omega, by go_num, rfl, HX.out⟩, by simp [intOf]; omega⟩
    · have h1 : (n : Int) ≤ k := by omega
      obtain rfl : k = n := by omega
      go_wp2_with fail
      go_ret
      exact ⟨rfl, HX.out⟩
end Go.Proofs.Ytfkjjmmoipcddaa.N
