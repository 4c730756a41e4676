import Derived.Test.YtgnepbogadfinaaGreatDoorXm28
import Derived.Test.YtgnepbogadfinaaGreatDoorXm32
/- A part of the proof: lemmas that later parts use. -/
set_option linter.unusedVariables false
set_option linter.unusedSimpArgs false
namespace Go.Proofs.YtgnepbogadfinaaGreatDoor.PA
open Go.RowKit Go.Proofs.YtgnepbogadfinaaGreatDoorW.PrintWords
theorem gcd_ev : ∀ (n : Nat) (a b : Int), 0 ≤ a → 0 ≤ b → b < n → ∃ g, Ev (fun k => spec_mpGcd.f k a b) g
  | 0, a, b, _, h0, h => by omega
  | n + 1, a, b, ha, hb, h => by
    by_cases h0 : b > 0
    · have ht : Int.tmod a b = a % b := Int.tmod_eq_emod_of_nonneg ha
      obtain ⟨g, K, hK⟩ := gcd_ev n b (a % b) (by omega) (Int.emod_nonneg _ (by omega)) (by have := Int.emod_lt_of_pos a h0; omega)
      refine ⟨g, K + 1, fun k hk => ?_⟩
      obtain ⟨k, rfl⟩ : ∃ k', k = k' + 1 := ⟨k - 1, by omega⟩
      have e : spec_mpGcd.f k b (a % b) = some g := hK k (by omega)
      show spec_mpGcd.f (k + 1) a b = _
      unfold spec_mpGcd.f at e ⊢
      rw [spec_mpGcd.l0, if_pos h0, if_neg (by omega), ht]
      exact e
    · refine ⟨a, 1, fun k hk => ?_⟩
      obtain ⟨k, rfl⟩ : ∃ k', k = k' + 1 := ⟨k - 1, by omega⟩
      show spec_mpGcd.f (k + 1) a b = _
      unfold spec_mpGcd.f
      rw [spec_mpGcd.l0, if_neg h0]
theorem short_ev' (a b : Int) (ha : 0 ≤ a) (hb : 0 ≤ b) : ∃ v, Ev (fun k => spec_mpShort.f k a b) v := by
  obtain ⟨g, K, hK⟩ := gcd_ev (b.toNat + 1) a b ha hb (by omega)
  by_cases h0 : g = 0
  · refine ⟨(a, b), K, fun k hk => ?_⟩
    have e : spec_mpGcd.f k a b = some g := hK k hk
    show spec_mpShort.f k a b = _
    unfold spec_mpShort.f
    rw [e, Option.bind_some, if_pos h0]
  · refine ⟨(wrap64 (Int.tdiv a g), wrap64 (Int.tdiv b g)), K, fun k hk => ?_⟩
    have e : spec_mpGcd.f k a b = some g := hK k hk
    show spec_mpShort.f k a b = _
    unfold spec_mpShort.f
    rw [e, Option.bind_some, if_neg h0]
theorem shl_one (r : Int) (h0 : 0 ≤ r) (h : r ≤ 20) : 1 ≤ shl .i64 1 r ∧ shl .i64 1 r ≤ 1048576 := by
  obtain ⟨q, rfl⟩ : ∃ q : Nat, r = q := ⟨r.toNat, by omega⟩
  have hq : q ∈ List.range 21 := List.mem_range.2 (by omega)
  have : ∀ q ∈ List.range 21, 1 ≤ shl .i64 1 ((q : Nat) : Int) ∧ shl .i64 1 ((q : Nat) : Int) ≤ 1048576 := by decide +kernel
  exact this q hq
theorem frac_ev {l : List Int} (hl : Oct l) {m : Nat} {a s : Int} (n : Nat) (hn : n ≤ 18) (h : Lf (m + 12) a) : ∃ (x y a' s' : Int), Ev (fun k => spec_l1Cur_fraction.f k l a s n) (x, y, a', s') ∧ Lf m a' := by
  obtain ⟨r, a1, s1, e1, r0, r1, h1⟩ := pick_tot hl (m := m + 10) (a := a) (s := s) ((n : Int) + 1) (by omega) (by unfold Lf at *; omega)
  have r1 := r1 (by omega)
  obtain ⟨q1, q2⟩ := shl_one r r0 (by omega)
  obtain ⟨u, a2, s2, e2, u0, u1, h2⟩ := pick_tot hl (m := m + 8) (a := a1) (s := s1) (shl .i64 1 r + 1) (by omega) (by unfold Lf at *; omega)
  obtain ⟨⟨x, y⟩, K, hK⟩ := short_ev' u (shl .i64 1 r) u0 (by omega)
  obtain ⟨v, a3, s3, e3, v0, v1, h3⟩ := pick_tot hl (m := m + 6) (a := a2) (s := s2) 14 (by omega) (by unfold Lf at *; omega)
  obtain ⟨c, a4, s4, e4, _, h4⟩ := among_tot hl (m := m + 4) (a := a3) (s := s3) [(-1), 0, 1, 2, 4611686018427387904] (by decide) (by decide) (by unfold Lf at *; omega)
  obtain ⟨d, a5, s5, e5, _, h5⟩ := among_tot hl (m := m + 2) (a := a4) (s := s4) [0, 1, 2, 3, 4, 1024, 2048, 4611686018427387904] (by decide) (by decide) (by unfold Lf at *; omega)
  have go : ∀ k, K ≤ k → spec_l1Cur_fraction.f k l a s n = (if v = 0 then some (c, d, a5, s5) else if v = 1 then some (1, 1024, a3, s3) else some (x, y, a3, s3)) := fun k hk => by
    have e : spec_mpShort.f k u (shl .i64 1 r) = some (x, y) := hK k hk
    unfold spec_l1Cur_fraction.f
    rw [w64 (by omega), e1, Option.bind_some]
    dsimp only
    rw [if_pos r0, w64 (by omega), e2, Option.bind_some]
    dsimp only
    rw [e, Option.bind_some, e3, Option.bind_some]
    dsimp only
    by_cases c0 : v = 0
    · rw [if_pos c0, if_pos c0, e4, Option.bind_some, e5, Option.bind_some]
    · rw [if_neg c0, if_neg c0]
  by_cases c0 : v = 0
  · exact ⟨c, d, a5, s5, ⟨K, fun k hk => by show spec_l1Cur_fraction.f k l a s n = _; rw [go k hk, if_pos c0]⟩, h5.less (by omega)⟩
  · by_cases c1 : v = 1
    · exact ⟨1, 1024, a3, s3, ⟨K, fun k hk => by show spec_l1Cur_fraction.f k l a s n = _; rw [go k hk, if_neg c0, if_pos c1]⟩, h3.less (by omega)⟩
    · exact ⟨x, y, a3, s3, ⟨K, fun k hk => by show spec_l1Cur_fraction.f k l a s n = _; rw [go k hk, if_neg c0, if_neg c1]⟩, h3.less (by omega)⟩
theorem pair_ev {l : List Int} (hl : Oct l) {m : Nat} {a s : Int} (n : Nat) (hn : n ≤ 100) (h : Lf (m + 8 * n + 100) a) : ∃ (x y : ByteArray) (a' s' : Int), Ev (fun k => spec_l1Cur_pair.f k l a s n) (x, y, a', s') ∧ Lf m a' := by
  obtain ⟨x, y, a', s', e, _, _, h'⟩ := pair_tot hl (m := m) (a := a) (s := s) n hn 121 (by omega) h
  exact ⟨x, y, a', s', Ev.of (fun k => spec_l1Cur_pair.mono _ _ _ _ k) (k := 121) e, h'⟩
theorem drawPP_ev {l : List Int} (hl : Oct l) : ∃ v, Ev (fun k => spec_DrawProductPair.f k l) v := by
  obtain ⟨x, y, a, s, ⟨K1, h1⟩, hL⟩ := pair_ev hl (m := 1000) (a := 0) (s := 0) 4 (by omega) (by unfold Lf; omega)
  obtain ⟨z, t, a', s', ⟨K2, h2⟩, _⟩ := pair_ev hl (m := 0) (a := a) (s := s) 4 (by omega) (by unfold Lf at *; omega)
  refine ⟨(x, y, z, t), K1 + K2, fun k hk => ?_⟩
  have e1 : spec_l1Cur_pair.f k l 0 0 4 = some (x, y, a, s) := h1 k (by omega)
  have e2 : spec_l1Cur_pair.f k l a s 4 = some (z, t, a', s') := h2 k (by omega)
  show spec_DrawProductPair.f k l = _
  unfold spec_DrawProductPair.f
  rw [e1, Option.bind_some, e2, Option.bind_some]
end Go.Proofs.YtgnepbogadfinaaGreatDoor.PA
