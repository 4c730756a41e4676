import Derived.Test.YtgnepbogadfinaaDoorXf6
import Derived.Test.YtgnepbogadfinaaDoorXf7
/- A part of the proof: lemmas that later parts use. -/
set_option linter.unusedVariables false
set_option linter.unusedSimpArgs false
namespace Go.Proofs.YtgnepbogadfinaaDoor.N
open Go.RowKit
set_option maxHeartbeats 1600000 in
theorem place_calls (m D g : Nat) (h : D * g = 1099511627776) (hm : m ≤ D) (hD : 0 < D) (w : World) :
    Calls Tryd.prog 41 #[.agg #[.int .i64 m, .int .i64 D]] w fun e w' => e = .returned (.int .i64 ((m * g : Nat) : Int)) ∧ Ext w w' := by
  have X0 := Lib.hid ((Ext.refl w).alloc (.cells #[.int .i64 m, .int .i64 D] 31))
  obtain ⟨c0, c1⟩ := cells_of (heap_alloc_new w (.cells #[.int .i64 m, .int .i64 D] 31))
  have q : (1099511627776 : Int).tdiv (D : Int) = (g : Int) := by
    rw [Int.tdiv_eq_ediv_of_nonneg (by omega)]
    refine Int.ediv_eq_of_eq_mul_right (by omega) ?_
    rw [← Int.natCast_mul, h]; rfl
  have hb : m * g ≤ 1099511627776 := by rw [← h]; exact Nat.mul_le_mul_right _ hm
  have HP : Hid (((m * g : Nat) : Int) = (m : Int) * (g : Int)) := Int.natCast_mul m g
  have hb2 : (m : Int) * (g : Int) ≤ 1099511627776 := by rw [← HP.out]; omega
  have hb3 : 0 ≤ (m : Int) * (g : Int) := by rw [← HP.out]; omega
  have g1 : (g : Int) ≤ 1099511627776 := by
    have : g ≤ 1099511627776 := by rw [← h]; exact Nat.le_mul_of_pos_left _ hD
    omega
  have d0 : (D : Int) ≠ 0 := by omega
  rw [HP.out]
  go_enter Tryd.func41, Tryd.ntmps41
  go_wp2_with fail
  generalize w.alloc (.cells #[.int .i64 m, .int .i64 D] 31) = W at *
  go_quiet (fail)
  have X1 := Lib.hid (X0.out.drewN nq)
  go_wp2_with fail
  go_ret
  exact ⟨rfl, X1.out⟩
set_option maxHeartbeats 1600000 in
theorem end_calls (a b : Int) (l l2 g : Nat) (hl : l ≤ 40) (hg : 2 ^ l * g = 1099511627776) (ha : 0 ≤ a ∧ a ≤ 1099511627776) (w : World) :
    Calls Tryd.prog 64 #[.agg #[.int .i64 a, .int .i64 b, .int .i64 l, .int .i64 l2]] w fun e w' => e = .returned (.int .i64 (a + g)) ∧ Ext w w' := by
  have X0 := Lib.hid ((Ext.refl w).alloc (.cells #[.int .i64 a, .int .i64 b, .int .i64 l, .int .i64 l2] 97))
  have ml : min l 64 = l := by omega
  have hp : 0 < 2 ^ l := Nat.two_pow_pos l
  have q : (1099511627776 : Int) / 2 ^ l = (g : Int) := by
    refine Int.ediv_eq_of_eq_mul_right (by have : (2 : Int) ^ l = ((2 ^ l : Nat) : Int) := by rw [Int.natCast_pow]; rfl
                                           omega) ?_
    rw [show (2 : Int) ^ l = ((2 ^ l : Nat) : Int) by rw [Int.natCast_pow]; rfl, ← Int.natCast_mul, hg]; rfl
  have g1 : (g : Int) ≤ 1099511627776 := by
    have : g ≤ 1099511627776 := by rw [← hg]; exact Nat.le_mul_of_pos_left _ hp
    omega
  clear hg hp
  go_enter Tryd.func64, Tryd.ntmps64
  go_wp2_with fail
  go_quiet (fail)
  have X1 := Lib.hid (X0.out.drewN nq)
  go_wp2_with fail
  go_ret
  exact ⟨rfl, X1.out⟩
def part (k : Nat) : Nat := 2 ^ (40 - k)
theorem part_step {k : Nat} (h : k < 40) : part k = part (k + 1) * 2 := by unfold part; rw [show 40 - k = (40 - (k + 1)) + 1 by omega, Nat.pow_succ]
theorem part_mul {k : Nat} (h : k ≤ 40) : 2 ^ k * part k = 1099511627776 := by unfold part; rw [← Nat.pow_add, show k + (40 - k) = 40 by omega]
theorem part_zero : part 0 = 1099511627776 := rfl
def plI (a : List UInt8) : Nat → Nat
  | 0 => 0
  | i + 1 => plI a i + if a[i]? = some 49 then part (i + 1) else 0
theorem plI_le (a : List UInt8) : ∀ i, i ≤ 40 → plI a i + part i ≤ 1099511627776
  | 0, _ => by simp [plI, part_zero]
  | i + 1, h => by
    have := plI_le a i (by omega)
    have e := part_step (show i < 40 by omega)
    simp only [plI]
    generalize part (i + 1) = u at *
    split <;> omega
set_option maxHeartbeats 1600000 in
theorem placeOf_calls (a : List UInt8) (ha : a.length ≤ 40) (w : World) :
    Calls Tryd.prog 54 #[.string (S a)] w fun e w' => e = .returned (.int .i64 (plI a a.length : Nat)) ∧ w = w' := by
  go_enter Tryd.func54, Tryd.ntmps54
  go_wp2_with fail
  go_loop [8, 3, 4] (fun i pl pa => ∃ k : Nat, k ≤ a.length ∧ i = .int .i64 k ∧ pl = .int .i64 (plI a k : Nat) ∧ pa = .int .i64 (part k : Nat)) (fun i _ _ => a.length - (intOf i).toNat)
  case atStart => exact ⟨0, Nat.zero_le _, rfl, rfl, rfl⟩
  case round =>
    obtain ⟨k, hk, rfl, rfl, rfl⟩ := hrel
    have hz : ((S a).size : Int) = a.length := rfl
    by_cases hlt : k < a.length
    · obtain ⟨c, hc⟩ : ∃ c, a[k]? = some c := ⟨_, List.getElem?_eq_getElem hlt⟩
      obtain ⟨x1, x2⟩ := s_at (S a) k c (by rw [S_toList]; exact hc)
      have h0 : (0 : Int) ≤ k := by omega
      have h1 : (k : Int) < (S a).size := by rw [hz]; omega
      have HB := plI_le a k (by omega)
      have PS := part_step (show k < 40 by omega)
      have q0 : (part k : Int).tdiv 2 = (part (k + 1) : Int) := by
        rw [Int.tdiv_eq_ediv_of_nonneg (by omega)]
        omega
      have P1 : Hid (plI a (k + 1) = plI a k + if c = 49 then part (k + 1) else 0) := by
        show _ = _
        simp only [plI, hc, Option.some.injEq]
      have hu : Hid (∀ x : Nat, part (k + 1) = x → Value.int .i64 (x : Int) = Value.int .i64 ((part (k + 1) : Nat) : Int)) := fun x h => by rw [h]
      obtain ⟨u, hu1⟩ : ∃ u, part (k + 1) = u := ⟨_, rfl⟩
      have HU := Lib.hid (hu.out u hu1)
      rw [hu1] at PS q0 P1
      clear hu hu1
      generalize part k = v at *
      generalize plI a k = z at *
      clear hc
      by_cases h49 : c = 49
      · subst h49
        rw [if_pos rfl] at P1
        have t4 : (((49 : UInt8).toNat : Int) == 49) = true := rfl
        go_wp2_with fail
        exact ⟨⟨k + 1, by omega, by go_num, by rw [P1.out]; go_num, HU.out⟩, by simp [intOf]; omega⟩
      · rw [if_neg h49] at P1
        have t4 : ((c.toNat : Int) == 49) = false := by
          rw [beq_eq_false_iff_ne]; intro h
          exact h49 (UInt8.toNat_inj.1 (by show c.toNat = 49; omega))
        go_wp2_with fail
        exact ⟨⟨k + 1, by omega, by go_num, by rw [P1.out]; rfl, HU.out⟩, by simp [intOf]; omega⟩
    · have h1 : ¬ (k : Int) < (S a).size := by rw [hz]; omega
      obtain rfl : k = a.length := by omega
      go_wp2_with fail
      go_ret
      exact ⟨rfl, rfl⟩
def halve : Nat → Nat → Nat → Nat × Nat
  | 0, p, d => (p, d)
  | f + 1, p, d => if 1 < d ∧ p % 2 = 0 then halve f (p / 2) (d / 2) else (p, d)
theorem halve_stop (f p d : Nat) (h : ¬ (1 < d ∧ p % 2 = 0)) : halve f p d = (p, d) := by cases f <;> simp [halve, h]
set_option maxHeartbeats 3200000 in
set_option maxRecDepth 100000 in
theorem fractionAt_calls (p : Nat) (hp : p ≤ 1099511627776) (w : World) :
    Calls Tryd.prog 68 #[.int .i64 p] w fun e w' => e = .returned (.tuple #[.agg #[.int .i64 ((halve 40 p 1099511627776).1 : Nat), .int .i64 ((halve 40 p 1099511627776).2 : Nat)], .bool (decide ((halve 40 p 1099511627776).2 ≤ 1024))]) ∧ Ext w w' := by
  have X0 := Lib.hid ((Ext.refl w).alloc (.cells #[.int .i64 0, .int .i64 0] 31))
  have T0 := Lib.hid (Two.new w (.int .i64 0) (.int .i64 0) 31 rfl)
  have hp1 : ¬ (p : Int) < 0 := by omega
  have hp2 : ¬ (1099511627776 : Int) < p := by omega
  go_enter Tryd.func68, Tryd.ntmps68
  go_wp2_with fail
  generalize w.alloc (.cells #[.int .i64 0, .int .i64 0] 31) = W at *
  go_loop [0, 4] (fun x y => ∃ f q d : Nat, x = .int .i64 q ∧ y = .int .i64 d ∧ q ≤ 1099511627776 ∧ d ≤ 2 ^ f ∧ f ≤ 40 ∧ Hid (halve f q d = halve 40 p 1099511627776)) (fun _ y => (intOf y).toNat)
  case atStart => exact ⟨40, p, 1099511627776, rfl, rfl, hp, by decide, by omega, rfl⟩
  case round =>
    obtain ⟨f, q, d, rfl, rfl, hq, hd, hf, HE⟩ := hrel
    have d40 : d ≤ 1099511627776 := Nat.le_trans hd (Nat.le_trans (Nat.pow_le_pow_right (by omega) hf) (by decide))
    by_cases hc : 1 < d ∧ q % 2 = 0
    · cases f with
      | zero => simp at hd; omega
      | succ f =>
        have HE2 : Hid (halve f (q / 2) (d / 2) = halve 40 p 1099511627776) := by show _ = _; rw [← HE.out]; simp [halve, hc]
        have hd2 : d / 2 ≤ 2 ^ f := by rw [Nat.pow_succ] at hd; omega
        have q0 : (q : Int).tdiv 2 = ((q / 2 : Nat) : Int) := by rw [Int.tdiv_eq_ediv_of_nonneg (by omega)]; omega
        have q1 : (d : Int).tdiv 2 = ((d / 2 : Nat) : Int) := by rw [Int.tdiv_eq_ediv_of_nonneg (by omega)]; omega
        have t1 : ((q : Int) % 2 == 0) = true := by rw [beq_iff_eq]; omega
        have g1 : (1 : Int) < d := by omega
        have l1 : q / 2 ≤ q := Nat.div_le_self _ _
        have l2 : d / 2 < d := by omega
        generalize q / 2 = q' at *
        generalize d / 2 = d' at *
        have l3 : (q' : Int) ≤ 1099511627776 := by omega
        have l4 : (d' : Int) ≤ 1099511627776 := by omega
        clear hc HE hd
        go_wp2_with fail
        exact ⟨⟨f, q', d', by go_num, by go_num, by omega, hd2, by omega, HE2.out⟩, by simp [intOf]; omega⟩
    · have HE2 : Hid (halve 40 p 1099511627776 = (q, d)) := by show _ = _; rw [← HE.out, halve_stop _ _ _ hc]
      obtain ⟨u, v, k0, k1, f0, f1⟩ := T0.out.facts
      have ED : decide ((d : Int) ≤ 1024) = decide (d ≤ 1024) := decide_eq_decide.2 (by omega)
      by_cases g1 : 1 < d
      · have g1' : (1 : Int) < d := by omega
        have t1 : ((q : Int) % 2 == 0) = false := by rw [beq_eq_false_iff_ne]; omega
        clear hc HE
        go_wp2_with fail
        have HH := set2_heap T0.out (.int .i64 q) (.int .i64 d)
        have XX := X0.out.set2 (g := w.heap.size) (Nat.le_refl _) (.int .i64 q) (.int .i64 d)
        change bodyPost _ _ _ _ _ (N.set2 W w.heap.size (.int .i64 q) (.int .i64 d))
        obtain ⟨hc0, hc1⟩ := cells_of HH
        generalize N.set2 W w.heap.size (.int .i64 q) (.int .i64 d) = W3 at *
        refine bodyPost_ret (v := .tuple #[.agg #[.int .i64 q, .int .i64 d], .bool (decide (d ≤ 1024))]) (by simp [results, Tryd.results68, go_sem, hc0, hc1]) rfl ⟨?_, XX⟩
        rw [HE2.out]
      · have g1' : ¬ (1 : Int) < d := by omega
        clear hc HE
        go_wp2_with fail
        have HH := set2_heap T0.out (.int .i64 q) (.int .i64 d)
        have XX := X0.out.set2 (g := w.heap.size) (Nat.le_refl _) (.int .i64 q) (.int .i64 d)
        change bodyPost _ _ _ _ _ (N.set2 W w.heap.size (.int .i64 q) (.int .i64 d))
        obtain ⟨hc0, hc1⟩ := cells_of HH
        generalize N.set2 W w.heap.size (.int .i64 q) (.int .i64 d) = W3 at *
        refine bodyPost_ret (v := .tuple #[.agg #[.int .i64 q, .int .i64 d], .bool (decide (d ≤ 1024))]) (by simp [results, Tryd.results68, go_sem, hc0, hc1]) rfl ⟨?_, XX⟩
        rw [HE2.out]
end Go.Proofs.YtgnepbogadfinaaDoor.N
namespace Go.Proofs.YtgnepbogadfinaaDoor.N
def sp (p : Nat) : Str := fun i => decide (i < 40) && p.testBit (39 - i)
def nb : List Bool → Nat
  | [] => 0
  | b :: l => (if b then 2 ^ l.length else 0) + nb l
end Go.Proofs.YtgnepbogadfinaaDoor.N
