import Derived.Test.YtgnepbogadfinaaDoorXf8
import Derived.Test.YtgnepbogadfinaaDoorXf28
import Derived.Test.YtgnepbogadfinaaDoorXf31
/- A part of the proof: lemmas that later parts use. -/
set_option linter.unusedVariables false
set_option linter.unusedSimpArgs false
namespace Go.Proofs.YtgnepbogadfinaaDoor.PA
open Go.RowKit Go.Proofs.YtgnepbogadfinaaDoorW.PrintWords
theorem gcd_ev : ∀ (n : Nat) (a b : Int), 0 ≤ a → 0 ≤ b → b < n → ∃ g, Ev (fun k => spec_mpGcd.f k a b) g
  | 0, a, b, _, h0, h => by omega
  | n + 1, a, b, ha, hb, h => by
    by_cases h0 : b > 0
    · have ht : Int.tmod a b = a % b := Int.tmod_eq_emod_of_nonneg ha
      obtain ⟨g, K, hK⟩ := gcd_ev n b (a % b) (by omega) (Int.emod_nonneg _ (by omega)) (by have := Int.emod_lt_of_pos a h0; omega)
      refine ⟨g, K + 1, fun k hk => ?_⟩
      obtain ⟨k, rfl⟩ : ∃ k', k = k' + 1 := ⟨k - 1, by omega⟩
      have e : spec_mpGcd.f k b (a % b) = some g := hK k (by omega)
      show spec_mpGcd.f (k + 1) a b = _
      unfold spec_mpGcd.f at e ⊢
      rw [spec_mpGcd.l0, if_pos h0, if_neg (by omega), ht]
      exact e
    · refine ⟨a, 1, fun k hk => ?_⟩
      obtain ⟨k, rfl⟩ : ∃ k', k = k' + 1 := ⟨k - 1, by omega⟩
      show spec_mpGcd.f (k + 1) a b = _
      unfold spec_mpGcd.f
      rw [spec_mpGcd.l0, if_neg h0]
theorem short_ev' (a b : Int) (ha : 0 ≤ a) (hb : 0 ≤ b) : ∃ v, Ev (fun k => spec_mpShort.f k a b) v := by
  obtain ⟨g, K, hK⟩ := gcd_ev (b.toNat + 1) a b ha hb (by omega)
  by_cases h0 : g = 0
  · refine ⟨(a, b), K, fun k hk => ?_⟩
    have e : spec_mpGcd.f k a b = some g := hK k hk
    show spec_mpShort.f k a b = _
    unfold spec_mpShort.f
    rw [e, Option.bind_some, if_pos h0]
  · refine ⟨(wrap64 (Int.tdiv a g), wrap64 (Int.tdiv b g)), K, fun k hk => ?_⟩
    have e : spec_mpGcd.f k a b = some g := hK k hk
    show spec_mpShort.f k a b = _
    unfold spec_mpShort.f
    rw [e, Option.bind_some, if_neg h0]
theorem shl_one (r : Int) (h0 : 0 ≤ r) (h : r ≤ 20) : 1 ≤ shl .i64 1 r ∧ shl .i64 1 r ≤ 1048576 := by
  obtain ⟨q, rfl⟩ : ∃ q : Nat, r = q := ⟨r.toNat, by omega⟩
  have hq : q ∈ List.range 21 := List.mem_range.2 (by omega)
  have : ∀ q ∈ List.range 21, 1 ≤ shl .i64 1 ((q : Nat) : Int) ∧ shl .i64 1 ((q : Nat) : Int) ≤ 1048576 := by decide +kernel
  exact this q hq
theorem frac_ev {l : List Int} (hl : Oct l) {m : Nat} {a s : Int} (n : Nat) (hn : n ≤ 18) (h : Lf (m + 12) a) : ∃ (x y a' s' : Int), Ev (fun k => spec_l1Cur_fraction.f k l a s n) (x, y, a', s') ∧ Lf m a' := by
  obtain ⟨r, a1, s1, e1, r0, r1, h1⟩ := pick_tot hl (m := m + 10) (a := a) (s := s) ((n : Int) + 1) (by omega) (by unfold Lf at *; omega)
  have r1 := r1 (by omega)
  obtain ⟨q1, q2⟩ := shl_one r r0 (by omega)
  obtain ⟨u, a2, s2, e2, u0, u1, h2⟩ := pick_tot hl (m := m + 8) (a := a1) (s := s1) (shl .i64 1 r + 1) (by omega) (by unfold Lf at *; omega)
  obtain ⟨⟨x, y⟩, K, hK⟩ := short_ev' u (shl .i64 1 r) u0 (by omega)
  obtain ⟨v, a3, s3, e3, v0, v1, h3⟩ := pick_tot hl (m := m + 6) (a := a2) (s := s2) 14 (by omega) (by unfold Lf at *; omega)
  obtain ⟨c, a4, s4, e4, _, h4⟩ := among_tot hl (m := m + 4) (a := a3) (s := s3) [(-1), 0, 1, 2, 4611686018427387904] (by decide) (by decide) (by unfold Lf at *; omega)
  obtain ⟨d, a5, s5, e5, _, h5⟩ := among_tot hl (m := m + 2) (a := a4) (s := s4) [0, 1, 2, 3, 4, 1024, 2048, 4611686018427387904] (by decide) (by decide) (by unfold Lf at *; omega)
  have go : ∀ k, K ≤ k → spec_l1Cur_fraction.f k l a s n = (if v = 0 then some (c, d, a5, s5) else if v = 1 then some (1, 1024, a3, s3) else some (x, y, a3, s3)) := fun k hk => by
    have e : spec_mpShort.f k u (shl .i64 1 r) = some (x, y) := hK k hk
    unfold spec_l1Cur_fraction.f
    rw [w64 (by omega), e1, Option.bind_some]
    dsimp only
    rw [if_pos r0, w64 (by omega), e2, Option.bind_some]
    dsimp only
    rw [e, Option.bind_some, e3, Option.bind_some]
    dsimp only
    by_cases c0 : v = 0
    · rw [if_pos c0, if_pos c0, e4, Option.bind_some, e5, Option.bind_some]
    · rw [if_neg c0, if_neg c0]
  by_cases c0 : v = 0
  · exact ⟨c, d, a5, s5, ⟨K, fun k hk => by show spec_l1Cur_fraction.f k l a s n = _; rw [go k hk, if_pos c0]⟩, h5.less (by omega)⟩
  · by_cases c1 : v = 1
    · exact ⟨1, 1024, a3, s3, ⟨K, fun k hk => by show spec_l1Cur_fraction.f k l a s n = _; rw [go k hk, if_neg c0, if_pos c1]⟩, h3.less (by omega)⟩
    · exact ⟨x, y, a3, s3, ⟨K, fun k hk => by show spec_l1Cur_fraction.f k l a s n = _; rw [go k hk, if_neg c0, if_neg c1]⟩, h3.less (by omega)⟩
end Go.Proofs.YtgnepbogadfinaaDoor.PA
namespace Go.Proofs.YtgnepbogadfinaaDoor.N
theorem si_is_fi' (T : Tr) (hT : T.carets ≤ 20) (p : Nat) (hp : p ≤ 1099511627776) : si p (addrs T []) 0 0 = fi p (addrs T []) := by
  have c := addrs_chn T [] (by have := T.depth_le; simp; omega)
  have hne : addrs T [] ≠ [] := fun h => by have := addrs_length T []; rw [h] at this; simp at this
  have := si_fi p (addrs T []) _ _ 0 0 c hne (by show 0 ≤ p; omega) (by show p ≤ 0 + part 0; rw [part_zero]; omega)
  rw [this, Nat.zero_add]
end Go.Proofs.YtgnepbogadfinaaDoor.N
namespace Go.Proofs.YtgnepbogadfinaaDoor.PA
open Go.RowKit Go.Proofs.YtgnepbogadfinaaDoorW.PrintWords Go.Proofs.YtgnepbogadfinaaDoorW.PrintLast
theorem shr_part (j : Nat) (hj : j < 10) : shr .i64 1099511627776 ((j : Int) + 1) = ((N.part (j + 1) : Nat) : Int) := by
  have hq : j ∈ List.range 10 := List.mem_range.2 hj
  have : ∀ j ∈ List.range 10, shr .i64 1099511627776 ((j : Nat) + 1 : Int) = ((N.part (j + 1) : Nat) : Int) := by decide +kernel
  exact this j hq
theorem shl_pow (j : Nat) (hj : j < 11) : shl .i64 1 (j : Int) = ((2 ^ j : Nat) : Int) := by
  have hq : j ∈ List.range 11 := List.mem_range.2 hj
  have : ∀ j ∈ List.range 11, shl .i64 1 ((j : Nat) : Int) = ((2 ^ j : Nat) : Int) := by decide +kernel
  exact this j hq
theorem shr_nat (a i : Nat) (ha : a ≤ 1000000) (hi : i ≤ 60) : shr .i64 (a : Int) (i : Int) = ((a / 2 ^ i : Nat) : Int) := by
  unfold shr
  rw [show min ((i : Int)).toNat (IntKind.bits .i64) = i by show min i 64 = i; omega, Int.natCast_ediv, Int.natCast_pow]
  rfl
theorem strOfNums_one (c : UInt8) : strOfNums [((c.toNat : Nat) : Int)] = (⟨#[c]⟩ : ByteArray) := by
  simp [strOfNums]
theorem ltr_S (c : UInt8) (p i : Nat) (h : c = N.ltr p i) (u : List UInt8) : N.S u ++ (⟨#[c]⟩ : ByteArray) = N.S (u ++ [N.ltr p i]) := by
  subst h; exact N.S_append u [N.ltr p i]
theorem ao_l0 (x : Nat × Nat) (hx : N.FrOk x) (n : Nat) (hn : n ≤ 10) : ∀ q j : Nat, q + j = n → Ev (fun k => impl_AddressOf.l0 k (N.S (N.adS (N.plc x) j)) (n : Int) (j : Int) (x.1 : Int) (x.2 : Int)) (N.S (N.adS (N.plc x) n), true)
  | 0, j, h => ⟨1, fun k hk => by
    obtain ⟨k, rfl⟩ : ∃ k', k = k' + 1 := ⟨k - 1, by omega⟩
    obtain rfl : j = n := by omega
    show impl_AddressOf.l0 (k + 1) _ _ _ _ _ = _
    rw [impl_AddressOf.l0, if_neg (by omega)]⟩
  | q + 1, j, h => by
    obtain ⟨K, hK⟩ := ao_l0 x hx n hn q (j + 1) (by omega)
    have hg : N.goodB (x.1 : Int) (x.2 : Int) = true := hx
    have hle := hx.le
    have sp := shr_part j (by omega)
    have pp : 0 < N.part (j + 1) := Nat.two_pow_pos _
    have hz := N.adS_length (N.plc x) j
    have ldv := Nat.div_le_self (N.plc x) (N.part (j + 1))
    have P : impl_Fraction_place.f (x.1 : Int) (x.2 : Int) = some ((N.plc x : Nat) : Int) := by
      unfold impl_Fraction_place.f
      rw [if_pos hg, plN_plc]
    have I : strconv_Itoa.f (Int.tmod (wrap64 (Int.tdiv ((N.plc x : Nat) : Int) ((N.part (j + 1) : Nat) : Int))) 2) = some (⟨#[N.ltr (N.plc x) j]⟩ : ByteArray) := by
      have t1 : Int.tdiv ((N.plc x : Nat) : Int) ((N.part (j + 1) : Nat) : Int) = ((N.plc x / N.part (j + 1) : Nat) : Int) := by
        rw [Int.tdiv_eq_ediv_of_nonneg (by omega)]; exact (Int.natCast_ediv _ _).symm
      rw [t1]
      unfold strconv_Itoa.f N.ltr
      generalize N.plc x / N.part (j + 1) = z at *
      clear t1
      rw [w64 (by omega), Int.tmod_eq_emod_of_nonneg (by omega)]
      by_cases h1 : z % 2 = 1
      · rw [if_neg (by omega), if_pos (by omega), if_pos h1]
      · rw [if_pos (by omega), if_neg h1]
    refine ⟨K + 1, fun k hk => ?_⟩
    obtain ⟨k, rfl⟩ : ∃ k', k = k' + 1 := ⟨k - 1, by omega⟩
    have e : impl_AddressOf.l0 k (N.S (N.adS (N.plc x) (j + 1))) (n : Int) ((j + 1 : Nat) : Int) (x.1 : Int) (x.2 : Int) = _ := hK k (by omega)
    show impl_AddressOf.l0 (k + 1) _ _ _ _ _ = _
    rw [impl_AddressOf.l0, if_pos (by omega), P, Option.bind_some, w64 (x := (j : Int) + 1) (by omega), if_pos (by omega), sp, if_neg (by omega), I, Option.bind_some, if_pos (by rw [N.S_size, hz]; show j + 1 ≤ _; omega)]
    rw [ltr_S _ (N.plc x) j rfl]
    exact e
theorem ao_s0 (m k0 n : Nat) (hk : k0 ≤ n) (hn : n ≤ 10) (hm : m ≤ 2 ^ k0) (p : Nat) (hp : p = m * N.part k0) : ∀ q j : Nat, q + j = n → Ev (fun k => spec_AddressOf.l0 k ((m * 2 ^ (n - k0) : Nat) : Int) (N.S (N.adS p j)) ((n : Int) - 1 - j)) (N.S (N.adS p n), true)
  | 0, j, h => ⟨1, fun k hk => by
    obtain ⟨k, rfl⟩ : ∃ k', k = k' + 1 := ⟨k - 1, by omega⟩
    obtain rfl : j = n := by omega
    show spec_AddressOf.l0 (k + 1) _ _ _ = _
    rw [spec_AddressOf.l0, if_neg (by omega)]⟩
  | q + 1, j, h => by
    obtain ⟨K, hK⟩ := ao_s0 m k0 n hk hn hm p hp q (j + 1) (by omega)
    have hz := N.adS_length p j
    have hl := N.ltr_num m k0 n j (by omega) hk (by omega)
    rw [← hp] at hl
    have hM : m * 2 ^ (n - k0) ≤ 1024 := by
      have := Nat.mul_le_mul_right (2 ^ (n - k0)) hm
      rw [← Nat.pow_add, show k0 + (n - k0) = n by omega] at this
      have := Nat.pow_le_pow_right (show 0 < 2 by omega) hn
      omega
    obtain ⟨i, hi⟩ : ∃ i : Nat, (n : Int) - 1 - j = (i : Int) ∧ n - 1 - j = i := ⟨n - 1 - j, by omega, rfl⟩
    rw [hi.2] at hl
    have S : ((wrap64 (48 + (Int.tmod (shr .i64 ((m * 2 ^ (n - k0) : Nat) : Int) (i : Int)) 2))) % 256) = ((N.ltr p j).toNat : Int) := by
      have e : shr .i64 ((m * 2 ^ (n - k0) : Nat) : Int) (i : Int) = ((m * 2 ^ (n - k0) / 2 ^ i : Nat) : Int) := shr_nat _ _ (by omega) (by omega)
      rw [e, hl]
      generalize m * 2 ^ (n - k0) / 2 ^ i = z
      rw [Int.tmod_eq_emod_of_nonneg (by omega)]
      by_cases h1 : z % 2 = 1
      · rw [if_pos h1, w64 (by omega)]
        show _ = (49 : Int)
        omega
      · rw [if_neg h1, w64 (by omega)]
        show _ = (48 : Int)
        omega
    have SN : strOfNums [((N.ltr p j).toNat : Int)] = (⟨#[N.ltr p j]⟩ : ByteArray) := by
      generalize N.ltr p j = c
      exact strOfNums_one c
    refine ⟨K + 1, fun k hk => ?_⟩
    obtain ⟨k, rfl⟩ : ∃ k', k = k' + 1 := ⟨k - 1, by omega⟩
    have e : spec_AddressOf.l0 k ((m * 2 ^ (n - k0) : Nat) : Int) (N.S (N.adS p (j + 1))) ((n : Int) - 1 - (j + 1 : Nat)) = _ := hK k (by omega)
    show spec_AddressOf.l0 (k + 1) _ _ _ = _
    rw [spec_AddressOf.l0, hi.1, if_pos (by omega), if_pos (by omega), S, Option.bind_some, SN, if_pos (by rw [N.S_size, hz]; show j + 1 ≤ _; omega), ltr_S _ p j rfl, w64 (by omega)]
    rw [show (i : Int) - 1 = (n : Int) - 1 - ((j + 1 : Nat) : Int) by omega]
    exact e
theorem addr_ev (n d m : Int) : ∃ (s : ByteArray) (ok : Bool), Ev (fun k => impl_AddressOf.f k n d m) (s, ok) ∧ Ev (fun k => spec_AddressOf.f k n d m) (s, ok) ∧
    (ok = true → ∃ (x : Nat × Nat) (q : Nat), N.FrOk x ∧ n = (x.1 : Int) ∧ d = (x.2 : Int) ∧ m = (q : Int) ∧ q ≤ 10 ∧ x.1 ≠ x.2 ∧ x.2 ≤ 2 ^ q ∧ s = N.S (N.adS (N.plc x) q)) ∧
    (∀ (x : Nat × Nat) (q : Nat), N.FrOk x → n = (x.1 : Int) → d = (x.2 : Int) → m = (q : Int) → q ≤ 10 → x.1 ≠ x.2 → x.2 ≤ 2 ^ q → ok = true) := by
  have I : impl_IsFraction.f n d = some (N.goodB n d) := rfl
  have M : spec_mpGood.f n d = some (N.goodB n d) := rfl
  have bi : ∀ k, impl_AddressOf.j0 (k + 1) m true n d = some (⟨#[]⟩, false) := fun k => by rw [impl_AddressOf.j0, if_pos rfl]
  have bs : ∀ k, spec_AddressOf.j0 (k + 1) m true n d = some (⟨#[]⟩, false) := fun k => by rw [spec_AddressOf.j0, if_pos rfl]
  have L : spec_l1In.f m 0 10 = some (decide (0 ≤ m ∧ m ≤ 10)) := by
    unfold spec_l1In.f
    by_cases h : m ≥ 0
    · rw [if_pos h]; congr 1; rw [decide_eq_decide]; omega
    · rw [if_neg h, decide_eq_false (by omega)]
  have no : (∀ k, impl_AddressOf.f (k + 1) n d m = some (⟨#[]⟩, false)) → (∀ k, spec_AddressOf.f (k + 1) n d m = some (⟨#[]⟩, false)) → (∀ (x : Nat × Nat) (q : Nat), N.FrOk x → n = (x.1 : Int) → d = (x.2 : Int) → m = (q : Int) → q ≤ 10 → x.1 ≠ x.2 → x.2 ≤ 2 ^ q → False) →
      ∃ (s : ByteArray) (ok : Bool), Ev (fun k => impl_AddressOf.f k n d m) (s, ok) ∧ Ev (fun k => spec_AddressOf.f k n d m) (s, ok) ∧
    (ok = true → ∃ (x : Nat × Nat) (q : Nat), N.FrOk x ∧ n = (x.1 : Int) ∧ d = (x.2 : Int) ∧ m = (q : Int) ∧ q ≤ 10 ∧ x.1 ≠ x.2 ∧ x.2 ≤ 2 ^ q ∧ s = N.S (N.adS (N.plc x) q)) ∧
    (∀ (x : Nat × Nat) (q : Nat), N.FrOk x → n = (x.1 : Int) → d = (x.2 : Int) → m = (q : Int) → q ≤ 10 → x.1 ≠ x.2 → x.2 ≤ 2 ^ q → ok = true) := by
    intro h1 h2 h3
    refine ⟨⟨#[]⟩, false, ⟨1, fun k hk => ?_⟩, ⟨1, fun k hk => ?_⟩, (fun h => by cases h), fun x q a b c d e f g => (h3 x q a b c d e f g).elim⟩
    · obtain ⟨k, rfl⟩ : ∃ k', k = k' + 1 := ⟨k - 1, by omega⟩
      exact h1 k
    · obtain ⟨k, rfl⟩ : ∃ k', k = k' + 1 := ⟨k - 1, by omega⟩
      exact h2 k
  by_cases hg : N.goodB n d = true
  · obtain ⟨x, hx, rfl, rfl⟩ := frOk_of hg
    by_cases he : x.1 = x.2
    · refine no (fun k => ?_) (fun k => ?_) (fun y q hy e1 e2 _ _ e3 _ => e3 (by omega))
      · unfold impl_AddressOf.f
        rw [I, Option.bind_some, if_pos hg, if_pos (by omega)]
        exact bi k
      · unfold spec_AddressOf.f
        rw [M, Option.bind_some, if_pos hg, if_pos (by omega)]
        exact bs k
    · by_cases hm : 0 ≤ m ∧ m ≤ 10
      · obtain ⟨q, rfl⟩ : ∃ q : Nat, m = q := ⟨m.toNat, by omega⟩
        have sh := shl_pow q (by omega)
        have gi : ∀ k, impl_AddressOf.f k (x.1 : Int) (x.2 : Int) (q : Int) = impl_AddressOf.j0 k (q : Int) (decide ((x.2 : Int) > ((2 ^ q : Nat) : Int))) (x.1 : Int) (x.2 : Int) := fun k => by
          unfold impl_AddressOf.f
          rw [I, Option.bind_some, if_pos hg, if_neg (by omega), if_neg (by omega), if_neg (by omega), if_pos (by omega), sh]
        have gs : ∀ k, spec_AddressOf.f k (x.1 : Int) (x.2 : Int) (q : Int) = spec_AddressOf.j0 k (q : Int) (decide ((x.2 : Int) > ((2 ^ q : Nat) : Int))) (x.1 : Int) (x.2 : Int) := fun k => by
          unfold spec_AddressOf.f
          rw [M, Option.bind_some, if_pos hg, if_neg (by omega), L, Option.bind_some, if_pos (decide_eq_true hm), if_pos (by omega), sh]
        by_cases hd : x.2 ≤ 2 ^ q
        · have hf : decide ((x.2 : Int) > ((2 ^ q : Nat) : Int)) = false := decide_eq_false (by omega)
          rw [hf] at gi gs
          obtain ⟨m0, k0, e1, e2, hk0, hm0, _⟩ := N.goodB_true hg
          obtain rfl : x.1 = m0 := by omega
          have e2' : x.2 = 2 ^ k0 := by omega
          have hkq : k0 ≤ q := by
            rw [e2'] at hd
            exact (Nat.pow_le_pow_iff_right (show 1 < 2 by omega)).1 hd
          have hpl : N.plc x = x.1 * N.part k0 := by unfold N.plc; rw [e2', N.part_div (by omega)]
          obtain ⟨K1, h1⟩ := ao_l0 x hx q (by omega) q 0 (by omega)
          obtain ⟨K2, h2⟩ := ao_s0 x.1 k0 q hkq (by omega) hm0 (N.plc x) hpl q 0 (by omega)
          have hpos : 0 < x.2 := by rw [e2']; exact Nat.two_pow_pos _
          have hM : x.1 * 2 ^ (q - k0) ≤ 1024 := by
            have := Nat.mul_le_mul_right (2 ^ (q - k0)) hm0
            rw [← Nat.pow_add, show k0 + (q - k0) = q by omega] at this
            have := Nat.pow_le_pow_right (show 0 < 2 by omega) (show q ≤ 10 by omega)
            omega
          have num : wrap64 ((x.1 : Int) * (wrap64 (Int.tdiv ((2 ^ q : Nat) : Int) (x.2 : Int)))) = ((x.1 * 2 ^ (q - k0) : Nat) : Int) := by
            have t1 : Int.tdiv ((2 ^ q : Nat) : Int) (x.2 : Int) = ((2 ^ (q - k0) : Nat) : Int) := by
              rw [Int.tdiv_eq_ediv_of_nonneg (by omega), ← Int.natCast_ediv, e2', Nat.pow_div hkq (by omega)]
            have lp : 2 ^ (q - k0) ≤ 1024 := Nat.pow_le_pow_right (show 0 < 2 by omega) (show q - k0 ≤ 10 by omega)
            rw [t1]
            clear t1
            generalize 2 ^ (q - k0) = z at *
            rw [w64 (x := (z : Int)) (by omega), ← Int.natCast_mul, w64 (by omega)]
          refine ⟨N.S (N.adS (N.plc x) q), true, ⟨K1 + 1, fun k hk => ?_⟩, ⟨K2 + 1, fun k hk => ?_⟩, fun _ => ⟨x, q, hx, rfl, rfl, rfl, by omega, he, hd, rfl⟩, fun _ _ _ _ _ _ _ _ _ => rfl⟩
          · obtain ⟨k, rfl⟩ : ∃ k', k = k' + 1 := ⟨k - 1, by omega⟩
            have e : impl_AddressOf.l0 k (⟨#[]⟩ : ByteArray) (q : Int) 0 (x.1 : Int) (x.2 : Int) = _ := h1 k (by omega)
            show impl_AddressOf.f (k + 1) _ _ _ = _
            rw [gi, impl_AddressOf.j0, if_neg (by decide), e]
          · obtain ⟨k, rfl⟩ : ∃ k', k = k' + 1 := ⟨k - 1, by omega⟩
            have e : spec_AddressOf.l0 k ((x.1 * 2 ^ (q - k0) : Nat) : Int) (⟨#[]⟩ : ByteArray) ((q : Int) - 1 - (0 : Nat)) = _ := h2 k (by omega)
            show spec_AddressOf.f (k + 1) _ _ _ = _
            rw [gs, spec_AddressOf.j0, if_neg (by decide), if_pos (by omega), if_neg (by omega), sh, num, w64 (by omega)]
            rw [show (q : Int) - 1 = (q : Int) - 1 - ((0 : Nat) : Int) by omega, e]
        · have hf : decide ((x.2 : Int) > ((2 ^ q : Nat) : Int)) = true := decide_eq_true (by omega)
          rw [hf] at gi gs
          refine no (fun k => by rw [gi]; exact bi k) (fun k => by rw [gs]; exact bs k) (fun y q' hy e1 e2 e3 _ _ e4 => hd (by (obtain rfl : q' = q := (by omega)); omega))
      · refine no (fun k => ?_) (fun k => ?_) (fun y q hy _ _ e1 _ _ _ => hm (by omega))
        · unfold impl_AddressOf.f
          rw [I, Option.bind_some, if_pos hg, if_neg (by omega)]
          by_cases h0 : m < 0
          · rw [if_pos h0]; exact bi k
          · rw [if_neg h0, if_pos (by omega)]; exact bi k
        · unfold spec_AddressOf.f
          rw [M, Option.bind_some, if_pos hg, if_neg (by omega), L, Option.bind_some, if_neg (by rw [decide_eq_false hm]; decide)]
          exact bs k
  · refine no (fun k => ?_) (fun k => ?_) (fun y q hy e1 e2 _ _ _ _ => hg (by rw [e1, e2]; exact hy))
    · unfold impl_AddressOf.f
      rw [I, Option.bind_some, if_neg hg]
      exact bi k
    · unfold spec_AddressOf.f
      rw [M, Option.bind_some, if_neg hg]
      exact bs k
theorem fracOf_ev (s : ByteArray) : ∃ v, impl_FractionOf.f s = some v ∧ Ev (fun k => spec_FractionOf.f k s) v := by
  obtain ⟨K, hK⟩ := bits_ev s
  by_cases hg : N.adB s.toList = true
  · obtain ⟨x, x1, x2, x3⟩ := fracOf_yes hg
    obtain ⟨h1, h2⟩ := N.adB_bits hg
    obtain ⟨f1, f2⟩ := N.stF_ok h2
    have e : N.stF s.toList = x := by
      have a := f1.frF
      have b := x1.frF
      rw [f2] at a
      rw [x2, a] at b
      exact Option.some.inj b
    have e1 : N.sN s.toList = x.1 := congrArg Prod.fst e
    have e2 : N.sD s.toList = x.2 := congrArg Prod.snd e
    refine ⟨_, x3, K, fun k hk => ?_⟩
    have eb : spec_mpBits.f k s = some (N.adB s.toList) := hK k hk
    show spec_FractionOf.f k s = _
    unfold spec_FractionOf.f spec_mpOf.f
    rw [eb, Option.bind_some, if_pos hg, if_pos hg, Option.bind_some, e1, e2]
  · refine ⟨_, fracOf_no (Bool.eq_false_iff.2 hg), K, fun k hk => ?_⟩
    have eb : spec_mpBits.f k s = some (N.adB s.toList) := hK k hk
    show spec_FractionOf.f k s = _
    unfold spec_FractionOf.f
    rw [eb, Option.bind_some, if_neg hg]
theorem leaf_ev (s : ByteArray) (n d : Int) : spec_LeafOf.f s n d = impl_LeafOf.f s n d := by
  unfold spec_LeafOf.f impl_LeafOf.f spec_trIs.f
  rw [Option.bind_some]
  cases e : treeT s with
  | none => rw [if_neg (by decide)]
  | some T =>
    obtain ⟨rfl, h8⟩ := treeT_some e
    rw [if_pos (by rfl)]
    have M : spec_mpGood.f n d = some (N.goodB n d) := rfl
    rw [M, Option.bind_some]
    dsimp only
    by_cases hg : N.goodB n d = true
    · rw [if_pos hg, if_pos hg]
      obtain ⟨x, hx, rfl, rfl⟩ := frOk_of hg
      have := hx.le
      unfold spec_mpLeaf.f
      rw [N.parseT_tx, Option.bind_some, if_pos ⟨by omega, hg⟩, Option.bind_some, plN_plc, N.si_is_fi' T (by omega) _ this]
    · rw [if_neg hg, if_neg hg]
theorem starts_ev (s : ByteArray) : spec_LeafStarts.f s = impl_LeafStarts.f s := by
  unfold spec_LeafStarts.f impl_LeafStarts.f spec_trIs.f
  rw [Option.bind_some]
  cases e : treeT s with
  | none => rw [if_neg (by decide)]
  | some T =>
    obtain ⟨rfl, h8⟩ := treeT_some e
    rw [if_pos (by rfl)]
    unfold spec_mpStarts.f
    rw [N.parseT_tx, Option.bind_some, if_pos (by omega), Option.bind_some]
theorem drawFO_l0 {l : List Int} (hl : Oct l) : ∀ (n : Nat) (x : ByteArray) (a b : Int), x.size + n ≤ 1000 → n ≤ 100 → Lf (2 * n + 30) a → ∃ r, Ev (fun k => spec_DrawFractionOf.l0 k x (n : Int) l a b) r
  | 0, x, a, b, hx, hn, h => by
    obtain ⟨r, a1, b1, e1, r0, r1, h1⟩ := pick_tot hl (m := 20) (a := a) (s := b) 10 (by omega) (by unfold Lf at *; omega)
    obtain ⟨t, a2, b2, e2, _, _⟩ := spoilt_tot hl (m := 0) (a := a1) (s := b1) x (⟨#[48, 49, 50]⟩ : ByteArray) (by decide) (by decide) (by omega) 6 (by omega) (by unfold Lf at *; omega)
    obtain ⟨K, hK⟩ := Ev.of (fun k => spec_l1Cur_spoilt.mono l a1 b1 x (⟨#[48, 49, 50]⟩ : ByteArray) k) (k := 6) e2
    refine ⟨if r = 0 then t else if r = 1 then (⟨#[48, 49, 48, 49, 48, 49, 48, 49, 48, 49]⟩ : ByteArray) else if r = 2 then (⟨#[49, 48, 49, 48, 49, 48, 49, 48, 49, 48, 49]⟩ : ByteArray) else x, K + 1, fun k hk => ?_⟩
    obtain ⟨k, rfl⟩ : ∃ k', k = k' + 1 := ⟨k - 1, by omega⟩
    have e3 : spec_l1Cur_spoilt.f k l a1 b1 x (⟨#[48, 49, 50]⟩ : ByteArray) = some (t, a2, b2) := hK k (by omega)
    show spec_DrawFractionOf.l0 (k + 1) _ _ _ _ _ = _
    rw [spec_DrawFractionOf.l0, if_neg (by omega), e1, Option.bind_some]
    dsimp only
    by_cases c0 : r = 0
    · rw [if_pos c0, if_pos c0, e3, Option.bind_some]
    · rw [if_neg c0, if_neg c0]
      by_cases c1 : r = 1
      · rw [if_pos c1, if_pos c1]
      · rw [if_neg c1, if_neg c1]
        by_cases c2 : r = 2
        · rw [if_pos c2, if_pos c2]
        · rw [if_neg c2, if_neg c2]
  | n + 1, x, a, b, hx, hn, h => by
    obtain ⟨c, a', b', e, hc, hL⟩ := of_tot hl (m := 2 * n + 30) (a := a) (s := b) [(⟨#[48]⟩ : ByteArray), (⟨#[49]⟩ : ByteArray)] (by decide) (by decide) (by unfold Lf at *; omega)
    have c1 : c.size = 1 := by
      simp only [List.mem_cons, List.not_mem_nil, or_false] at hc
      rcases hc with rfl | rfl <;> rfl
    have cs : (x ++ c).size = x.size + 1 := by rw [ByteArray.size_append, c1]
    obtain ⟨r, K, hK⟩ := drawFO_l0 hl n (x ++ c) a' b' (by omega) (by omega) hL
    refine ⟨r, K + 1, fun k hk => ?_⟩
    obtain ⟨k, rfl⟩ : ∃ k', k = k' + 1 := ⟨k - 1, by omega⟩
    have e2 : spec_DrawFractionOf.l0 k (x ++ c) (n : Int) l a' b' = _ := hK k (by omega)
    show spec_DrawFractionOf.l0 (k + 1) _ _ _ _ _ = _
    rw [spec_DrawFractionOf.l0, if_pos (by omega), e, Option.bind_some]
    dsimp only
    rw [if_pos (by omega), w64 (by omega), show (((n + 1 : Nat) : Int) - 1) = (n : Int) by omega, e2]
theorem drawFO_ev {l : List Int} (hl : Oct l) : ∃ v, Ev (fun k => spec_DrawFractionOf.f k l) v := by
  obtain ⟨r, a, s, e, r0, r1, h⟩ := pick_tot hl (m := 1000) (a := 0) (s := 0) 9 (by omega) (by unfold Lf; omega)
  have r1 := r1 (by omega)
  obtain ⟨q, rfl⟩ : ∃ q : Nat, r = q := ⟨r.toNat, by omega⟩
  obtain ⟨v, K, hK⟩ := drawFO_l0 hl q (⟨#[]⟩ : ByteArray) a s (by show 0 + q ≤ 1000; omega) (by omega) (by unfold Lf at *; omega)
  refine ⟨v, K, fun k hk => ?_⟩
  have e2 : spec_DrawFractionOf.l0 k (⟨#[]⟩ : ByteArray) (q : Int) l a s = _ := hK k hk
  show spec_DrawFractionOf.f k l = _
  unfold spec_DrawFractionOf.f
  rw [e, Option.bind_some]
  exact e2
theorem drawAO_ev {l : List Int} (hl : Oct l) : ∃ v, Ev (fun k => spec_DrawAddressOf.f k l) v := by
  obtain ⟨x, y, a, s, ⟨K1, h1⟩, hL⟩ := frac_ev hl (m := 1000) (a := 0) (s := 0) 6 (by omega) (by unfold Lf; omega)
  obtain ⟨r, a2, s2, e2, r0, r1, _⟩ := pick_tot hl (m := 0) (a := a) (s := s) 13 (by omega) (by unfold Lf at *; omega)
  refine ⟨(x, y, wrap64 (r - 1)), K1, fun k hk => ?_⟩
  have e1 : spec_l1Cur_fraction.f k l 0 0 6 = some (x, y, a, s) := h1 k (by omega)
  show spec_DrawAddressOf.f k l = _
  unfold spec_DrawAddressOf.f
  rw [e1, Option.bind_some, e2, Option.bind_some]
theorem drawLO_ev {l : List Int} (hl : Oct l) : ∃ v, Ev (fun k => spec_DrawLeafOf.f k l) v := by
  obtain ⟨t, a, s, e1, _, hL⟩ := tree_tot hl (m := 1000) (a := 0) (s := 0) 6 (by omega) 121 (by omega) (by unfold Lf; omega)
  obtain ⟨K1, h1⟩ := Ev.of (fun k => spec_l1Cur_tree.mono l 0 0 6 k) (k := 121) e1
  obtain ⟨x, y, a', s', ⟨K2, h2⟩, _⟩ := frac_ev hl (m := 0) (a := a) (s := s) 5 (by omega) (by unfold Lf at *; omega)
  refine ⟨(t, x, y), K1 + K2, fun k hk => ?_⟩
  have e1 : spec_l1Cur_tree.f k l 0 0 6 = some (t, a, s) := h1 k (by omega)
  have e2 : spec_l1Cur_fraction.f k l a s 5 = some (x, y, a', s') := h2 k (by omega)
  show spec_DrawLeafOf.f k l = _
  unfold spec_DrawLeafOf.f
  rw [e1, Option.bind_some, e2, Option.bind_some]
theorem drawIF_ev {l : List Int} (hl : Oct l) : ∃ v, Ev (fun k => spec_DrawIsFraction.f k l) v := by
  obtain ⟨x, y, a, s, ⟨K1, h1⟩, hL⟩ := frac_ev hl (m := 1000) (a := 0) (s := 0) 7 (by omega) (by unfold Lf; omega)
  refine ⟨(x, y), K1, fun k hk => ?_⟩
  have e1 : spec_l1Cur_fraction.f k l 0 0 7 = some (x, y, a, s) := h1 k (by omega)
  show spec_DrawIsFraction.f k l = _
  unfold spec_DrawIsFraction.f
  rw [e1, Option.bind_some]
end Go.Proofs.YtgnepbogadfinaaDoor.PA
namespace Go.Proofs.YtgnepbogadfinaaDoor.PA
open Go.RowKit Go.Proofs.YtgnepbogadfinaaDoorW.PrintWords Go.Proofs.YtgnepbogadfinaaDoorW.PrintLast
theorem fa_j6 {l0 : List Int} (h0 : Oct l0) : Ev (fun k => laws_FnFractionsByAddresses.j6 k l0 false) true := by
  obtain ⟨⟨n, d⟩, K, hK⟩ := drawIF_ev h0
  refine ⟨K + 1, fun k hk => ?_⟩
  obtain ⟨k, rfl⟩ : ∃ k', k = k' + 1 := ⟨k - 1, by omega⟩
  have e : spec_DrawIsFraction.f k l0 = some (n, d) := hK k (by omega)
  have I : impl_IsFraction.f n d = some (N.goodB n d) := rfl
  have S : spec_IsFraction.f n d = some (N.goodB n d) := rfl
  show laws_FnFractionsByAddresses.j6 (k + 1) _ _ = _
  rw [laws_FnFractionsByAddresses.j6, if_neg (by decide), e, Option.bind_some]
  dsimp only
  rw [I, Option.bind_some, S, Option.bind_some]
  simp
structure Rows_ (L : List S31) (P : Nat → Nat) : Prop where
  len : L.length ≤ 100
  at_ : ∀ j, j < L.length → ∃ x : Nat × Nat, N.FrOk x ∧ rd_T31 L (j : Int) = ⟨(x.1 : Int), (x.2 : Int)⟩ ∧ N.plc x = P j
  rise : ∀ j, j + 1 < L.length → P j < P (j + 1)
theorem fa_l0 {l0 : List Int} (h0 : Oct l0) (L : List S31) (P : Nat → Nat) (hL : Rows_ L P) (leaf : Int) (three : Bool) (n d : Int)
    (hl : three = true → ∃ (z : Nat × Nat) (q : Nat), N.FrOk z ∧ n = (z.1 : Int) ∧ d = (z.2 : Int) ∧ leaf = (q : Int) ∧ q < L.length ∧ P q ≤ N.plc z ∧ (q + 1 < L.length → N.plc z < P (q + 1))) :
    ∀ q j : Nat, L.length ≤ q + (j + 1) → j + 1 ≤ 200 → Ev (fun k => laws_FnFractionsByAddresses.l0 k l0 leaf three L ((j + 1 : Nat) : Int) n d) true
  | 0, j, h, hj => by
    obtain ⟨K, hK⟩ := fa_j6 h0
    refine ⟨K + 1, fun k hk => ?_⟩
    obtain ⟨k, rfl⟩ : ∃ k', k = k' + 1 := ⟨k - 1, by omega⟩
    have e6 : laws_FnFractionsByAddresses.j6 k l0 false = some true := hK k (by omega)
    show laws_FnFractionsByAddresses.l0 (k + 1) _ _ _ _ _ _ _ = _
    rw [laws_FnFractionsByAddresses.l0, if_neg (by omega)]
    cases three with
    | false => rw [if_neg (by decide), e6]
    | true =>
      obtain ⟨z, q, hz, rfl, rfl, rfl, hq, p1, p2⟩ := hl rfl
      have hlen := hL.len
      obtain ⟨x, hx, ex, px⟩ := hL.at_ q hq
      rw [if_pos rfl, if_pos (by omega), if_pos (by omega), ex, less_at hz hx, Option.bind_some]
      have c1 : ¬ (z.1 * x.2 < x.1 * z.2) := by rw [N.less_plc hz hx]; omega
      rw [if_neg (by rw [decide_eq_false c1]; decide), w64 (by omega)]
      by_cases hn : q + 1 < L.length
      · obtain ⟨y, hy, ey, py⟩ := hL.at_ (q + 1) hn
        have c2 : z.1 * y.2 < y.1 * z.2 := by rw [N.less_plc hz hy, py]; exact p2 hn
        rw [if_pos (by omega), if_pos (by omega), show (q : Int) + 1 = ((q + 1 : Nat) : Int) by omega, ey, less_at hz hy, Option.bind_some, decide_eq_true c2]
        exact e6
      · rw [if_neg (by omega), e6]
  | q + 1, j, h, hj => by
    by_cases hlt : j + 1 < L.length
    · obtain ⟨K, hK⟩ := fa_l0 h0 L P hL leaf three n d hl q (j + 1) (by omega) (by have := hL.len; omega)
      obtain ⟨x, hx, ex, px⟩ := hL.at_ j (by omega)
      obtain ⟨y, hy, ey, py⟩ := hL.at_ (j + 1) hlt
      have hr := hL.rise j hlt
      have c : x.1 * y.2 < y.1 * x.2 := by rw [N.less_plc hx hy]; omega
      refine ⟨K + 1, fun k hk => ?_⟩
      obtain ⟨k, rfl⟩ : ∃ k', k = k' + 1 := ⟨k - 1, by omega⟩
      have e : laws_FnFractionsByAddresses.l0 k l0 leaf three L ((j + 1 + 1 : Nat) : Int) n d = some true := hK k (by omega)
      have hlen := hL.len
      show laws_FnFractionsByAddresses.l0 (k + 1) _ _ _ _ _ _ _ = _
      rw [laws_FnFractionsByAddresses.l0, if_pos (by omega), show wrap64 (((j + 1 : Nat) : Int) - 1) = (j : Int) by rw [w64 (by omega)]; omega, if_pos (by omega), if_pos (by omega), if_pos (by omega), ex, ey, less_at hx hy, Option.bind_some, if_pos (decide_eq_true c), show wrap64 (((j + 1 : Nat) : Int) + 1) = ((j + 1 + 1 : Nat) : Int) by rw [w64 (by omega)]; omega]
      exact e
    · exact fa_l0 h0 L P hL leaf three n d hl 0 j (by omega) hj
theorem rows_of (T : N.Tr) (h8 : T.carets ≤ 8) : Rows_ (frS ((N.addrs T []).map N.stF)) (fun j => N.plA ((N.addrs T []).getD j [])) := by
  have hlen := N.addrs_length T []
  have cT := N.addrs_chn T [] (by have := T.depth_le; simp; omega)
  have dT : ∀ x ∈ N.addrs T [], x.length ≤ 10 := fun x hx => by have := N.addrs_depth T [] x hx; have := T.depth_le; simp at *; omega
  generalize N.addrs T [] = la at *
  have hl2 : (frS (la.map N.stF)).length = la.length := by unfold frS; rw [List.length_map, List.length_map]
  refine ⟨by omega, fun j hj => ?_, fun j hj => ?_⟩
  · rw [hl2] at hj
    have hg := List.getElem?_eq_getElem hj
    obtain ⟨s1, s2⟩ := N.stF_ok (dT _ (List.getElem_mem hj))
    refine ⟨N.stF la[j], s1, ?_, ?_⟩
    · rw [rd_fr, List.getD_eq_getElem?_getD, List.getElem?_map, hg]; rfl
    · rw [s2, List.getD_eq_getElem?_getD, hg]; rfl
  · rw [hl2] at hj
    have g1 := List.getElem?_eq_getElem (show j < la.length by omega)
    have g2 := List.getElem?_eq_getElem hj
    have := N.chn_next cT g1 g2
    have h0 : 0 < N.part (la[j]).length := Nat.two_pow_pos _
    simp only [List.getD_eq_getElem?_getD]
    rw [g1, g2]
    simp only [Option.getD_some]
    omega
theorem fa_j3 {l0 l1 : List Int} (h0 : Oct l0) (h1 : Oct l1) : Ev (fun k => laws_FnFractionsByAddresses.j3 k l0 l1) true := by
  obtain ⟨⟨t, n, d⟩, K1, d1⟩ := drawLO_ev h1
  obtain ⟨⟨leaf, three⟩, hv⟩ : ∃ v, impl_LeafOf.f t n d = some v := ⟨_, rfl⟩
  obtain ⟨⟨L, five⟩, hs⟩ : ∃ v, impl_LeafStarts.f t = some v := ⟨_, rfl⟩
  have hv' : spec_LeafOf.f t n d = some (leaf, three) := by rw [leaf_ev]; exact hv
  have hs' : spec_LeafStarts.f t = some (L, five) := by rw [starts_ev]; exact hs
  have key : five = (treeT t).isSome ∧ ∃ P, Rows_ L P ∧ (three = true → ∃ (z : Nat × Nat) (q : Nat), N.FrOk z ∧ n = (z.1 : Int) ∧ d = (z.2 : Int) ∧ leaf = (q : Int) ∧ q < L.length ∧ P q ≤ N.plc z ∧ (q + 1 < L.length → N.plc z < P (q + 1))) := by
    unfold impl_LeafStarts.f at hs
    unfold impl_LeafOf.f at hv
    cases e : treeT t with
    | none =>
      rw [e] at hs hv
      simp only [Option.some.injEq, Prod.mk.injEq] at hs hv
      obtain ⟨rfl, rfl⟩ := hs
      obtain ⟨rfl, rfl⟩ := hv
      exact ⟨rfl, fun _ => 0, ⟨by simp, fun j hj => by simp at hj, fun j hj => by simp at hj⟩, fun h => by cases h⟩
    | some T =>
      rw [e] at hs hv
      simp only [Option.some.injEq, Prod.mk.injEq] at hs
      replace hv := Option.some.inj hv
      simp only at hv
      obtain ⟨rfl, rfl⟩ := hs
      obtain ⟨rfl, h8⟩ := treeT_some e
      refine ⟨rfl, _, rows_of T h8, fun h3 => ?_⟩
      by_cases hg : N.goodB n d = true
      · rw [if_pos hg] at hv
        simp only [Prod.mk.injEq] at hv
        obtain ⟨z, hz, rfl, rfl⟩ := frOk_of hg
        obtain ⟨rfl, _⟩ := hv
        have hle := hz.le
        have hlen := N.addrs_length T []
        have cT := N.addrs_chn T [] (by have := T.depth_le; simp; omega)
        have hne : N.addrs T [] ≠ [] := fun h => by rw [h] at hlen; simp at hlen
        obtain ⟨a, f1, f2, f3⟩ := N.fi_in (N.plc z) _ _ _ cT hne (by show 0 ≤ _; omega) (by show _ ≤ 0 + N.part 0; rw [N.part_zero]; omega)
        have hq := (List.getElem?_eq_some_iff.1 f1).1
        have hl2 : (frS ((N.addrs T []).map N.stF)).length = (N.addrs T []).length := by unfold frS; rw [List.length_map, List.length_map]
        refine ⟨z, N.fi (N.plc z) (N.addrs T []), hz, rfl, rfl, rfl, by omega, ?_, fun hn => ?_⟩
        · simp only [List.getD_eq_getElem?_getD]
          rw [f1]; exact f2
        · rw [hl2] at hn
          have g2 := List.getElem?_eq_getElem hn
          have e1 := N.fi_end (N.plc z) _ a f1 hn
          have e2 := N.chn_next cT f1 g2
          simp only [List.getD_eq_getElem?_getD]
          rw [g2]
          simp only [Option.getD_some]
          omega
      · rw [if_neg hg] at hv
        simp only [Prod.mk.injEq] at hv
        rw [← hv.2] at h3; cases h3
  obtain ⟨h5, P, hR, hT⟩ := key
  obtain ⟨K2, d2⟩ := fa_l0 h0 L P hR leaf three n d hT 100 0 (by have := hR.len; omega) (by omega)
  obtain ⟨K3, d3⟩ := ff_ev L (by have := hR.len; omega)
  refine ⟨K1 + K2 + K3 + 2, fun k hk => ?_⟩
  obtain ⟨k, rfl⟩ : ∃ k', k = k' + 2 := ⟨k - 2, by omega⟩
  have g1 : spec_DrawLeafOf.f (k + 1) l1 = some (t, n, d) := d1 (k + 1) (by omega)
  have g2 : laws_FnFractionsByAddresses.l0 k l0 leaf three L 1 n d = some true := d2 k (by omega)
  have g3 : laws_fFractions.f (k + 1) L L = some true := d3 (k + 1) (by omega)
  have T : impl_IsTree.f t = some five := by rw [h5]; rfl
  show laws_FnFractionsByAddresses.j3 (k + 1 + 1) _ _ = _
  rw [laws_FnFractionsByAddresses.j3, g1, Option.bind_some]
  dsimp only
  rw [hv, Option.bind_some, hv', Option.bind_some, hs, Option.bind_some, hs', Option.bind_some]
  dsimp only
  rw [if_neg (by simp), if_pos rfl, if_neg (by simp), g3, Option.bind_some, if_pos rfl, T, Option.bind_some, show (five != five) = false by simp, laws_FnFractionsByAddresses.j4, if_neg (by decide)]
  exact g2
theorem fa_j1 {l0 l1 : List Int} (h0 : Oct l0) (h1 : Oct l1) : Ev (fun k => laws_FnFractionsByAddresses.j1 k l0 l1) true := by
  obtain ⟨⟨n, d, m⟩, K1, d1⟩ := drawAO_ev h1
  obtain ⟨s, ok, ⟨K2, d2⟩, ⟨K3, d3⟩, hT, _⟩ := addr_ev n d m
  obtain ⟨K4, d4⟩ := fa_j3 h0 h1
  refine ⟨K1 + K2 + K3 + K4 + 2, fun k hk => ?_⟩
  obtain ⟨k, rfl⟩ : ∃ k', k = k' + 2 := ⟨k - 2, by omega⟩
  have g1 : spec_DrawAddressOf.f (k + 1) l1 = some (n, d, m) := d1 (k + 1) (by omega)
  have g2 : impl_AddressOf.f (k + 1) n d m = some (s, ok) := d2 (k + 1) (by omega)
  have g3 : spec_AddressOf.f (k + 1) n d m = some (s, ok) := d3 (k + 1) (by omega)
  have g4 : laws_FnFractionsByAddresses.j3 k l0 l1 = some true := d4 k (by omega)
  show laws_FnFractionsByAddresses.j1 (k + 1 + 1) _ _ = _
  rw [laws_FnFractionsByAddresses.j1, g1, Option.bind_some]
  dsimp only
  rw [g2, Option.bind_some, g3, Option.bind_some]
  dsimp only
  rw [if_neg (by simp), show (s.toList != s.toList) = false by simp, laws_FnFractionsByAddresses.j2, if_neg (by decide)]
  cases ok with
  | false => rw [if_neg (by decide), g4]
  | true =>
    obtain ⟨x, q, hx, rfl, rfl, rfl, hq, hne, hd, rfl⟩ := hT rfl
    have hb := N.adS_bits (N.plc x) q
    have hl := N.adS_length (N.plc x) q
    have hlt : N.plc x < 1099511627776 := Nat.lt_of_le_of_ne hx.le (fun e => hne (hx.whole.2 e))
    have hp := N.adS_place (N.plc x) q (by omega) hlt
    have hdv : N.part q ∣ N.plc x := by
      obtain ⟨k0, f1, f2, f3⟩ := hx.form
      have hkq : k0 ≤ q := by
        rw [f2] at hd
        exact (Nat.pow_le_pow_iff_right (show 1 < 2 by omega)).1 hd
      unfold N.plc
      rw [f2, N.part_div (by omega)]
      refine Nat.dvd_trans ?_ (Nat.dvd_mul_left _ _)
      unfold N.part
      exact Nat.pow_dvd_pow 2 (by omega)
    rw [Nat.div_mul_cancel hdv] at hp
    obtain ⟨y, y1, y2, y3⟩ := fracOf_yes (s := N.S (N.adS (N.plc x) q)) (by rw [N.S_toList]; exact N.adB_of hb (by omega))
    rw [N.S_toList, hp] at y2
    have hxy : y = x := by
      have a := y1.frF
      have b := hx.frF
      rw [y2, b] at a
      exact (Option.some.inj a).symm
    subst hxy
    rw [if_pos rfl, y3, Option.bind_some]
    dsimp only
    rw [if_pos rfl, if_neg (by simp), if_pos (by rw [N.S_size, hl]), g4]
theorem fa_j0 {l0 l1 : List Int} (h0 : Oct l0) (h1 : Oct l1) (s : ByteArray) (a b : Int) (ok : Bool) (hv : impl_FractionOf.f s = some (a, b, ok)) : Ev (fun k => laws_FnFractionsByAddresses.j0 k l0 l1 s ok false a b) true := by
  obtain ⟨K4, d4⟩ := fa_j1 h0 h1
  obtain ⟨u, ok2, ⟨K2, d2⟩, _, hT, hF⟩ := addr_ev a b (s.size : Int)
  refine ⟨K2 + K4 + 1, fun k hk => ?_⟩
  obtain ⟨k, rfl⟩ : ∃ k', k = k' + 1 := ⟨k - 1, by omega⟩
  have g2 : impl_AddressOf.f k a b (s.size : Int) = some (u, ok2) := d2 k (by omega)
  have g4 : laws_FnFractionsByAddresses.j1 k l0 l1 = some true := d4 k (by omega)
  show laws_FnFractionsByAddresses.j0 (k + 1) _ _ _ _ _ _ _ = _
  rw [laws_FnFractionsByAddresses.j0, if_neg (by decide)]
  cases ok with
  | false => rw [if_neg (by decide), g4]
  | true =>
    by_cases hg : N.adB s.toList = true
    · obtain ⟨x, x1, x2, x3⟩ := fracOf_yes hg
      rw [hv] at x3
      simp only [Option.some.injEq, Prod.mk.injEq] at x3
      obtain ⟨rfl, rfl, _⟩ := x3
      obtain ⟨b1, b2⟩ := N.adB_bits hg
      have hz : s.toList.length = s.size := by rw [ByteArray.toList_eq]; rfl
      have hlt := N.plA_lt (a := s.toList) (by omega)
      have hne : x.1 ≠ x.2 := fun e => by have := x1.whole.1 e; omega
      have hd : x.2 ≤ 2 ^ s.size := by
        have e := x1.back
        rw [x2, ← N.stF_halve s.toList (by omega)] at e
        rw [← e, ← hz]
        exact N.sD_le s.toList
      have hok := hF x s.size x1 rfl rfl rfl (by omega) hne hd
      obtain ⟨x', q, f1, f2, f3, f4, _, _, _, f5⟩ := hT hok
      have hq : q = s.size := by omega
      have hx : x' = x := by
        obtain ⟨u1, u2⟩ := x
        obtain ⟨u3, u4⟩ := x'
        simp only at f2 f3
        obtain rfl : u1 = u3 := by omega
        obtain rfl : u2 = u4 := by omega
        rfl
      subst hq hx
      have back := N.adS_back s.size s.toList hz (by omega) b1
      have eu : u.toList = s.toList := by rw [f5, N.S_toList, x2, back]
      have I : impl_IsFraction.f (x'.1 : Int) (x'.2 : Int) = some true := congrArg some x1
      rw [if_pos rfl, g2, Option.bind_some, I, Option.bind_some, if_pos rfl]
      dsimp only
      rw [if_pos hok, if_pos eu, g4]
    · rw [fracOf_no (Bool.eq_false_iff.2 hg)] at hv
      simp at hv
theorem fa_law {l0 l1 : List Int} (h0 : Oct l0) (h1 : Oct l1) : ∃ k, laws_FnFractionsByAddresses.f k l0 l1 = some true := by
  obtain ⟨s, K1, d1⟩ := drawFO_ev h0
  obtain ⟨b, hb⟩ : ∃ b, laws_big.f l0 l1 = some b := by
    unfold laws_big.f
    split
    · exact ⟨_, rfl⟩
    · exact ⟨_, rfl⟩
  cases b with
  | true => exact ⟨0, by unfold laws_FnFractionsByAddresses.f; rw [hb, Option.bind_some, if_pos rfl]⟩
  | false =>
    obtain ⟨⟨x, y, ok⟩, hv, K3, d3⟩ := fracOf_ev s
    obtain ⟨K2, d2⟩ := fa_j0 h0 h1 s x y ok hv
    refine ⟨K1 + K2 + K3, ?_⟩
    have g1 : spec_DrawFractionOf.f (K1 + K2 + K3) l0 = some s := d1 _ (by omega)
    have g2 : laws_FnFractionsByAddresses.j0 (K1 + K2 + K3) l0 l1 s ok false x y = some true := d2 _ (by omega)
    have g3 : spec_FractionOf.f (K1 + K2 + K3) s = some (x, y, ok) := d3 _ (by omega)
    unfold laws_FnFractionsByAddresses.f
    rw [hb, Option.bind_some, if_neg (by decide), g1, Option.bind_some, hv, Option.bind_some, g3, Option.bind_some]
    dsimp only
    rw [if_neg (by simp), show (!(x == x) || (!(y == y))) = false by simp, g2]
end Go.Proofs.YtgnepbogadfinaaDoor.PA
namespace Go.Proofs.YtgnepbogadfinaaDoor.Pure
open Go.RowKit Go.Proofs.YtgnepbogadfinaaDoor.PA Go.Proofs.YtgnepbogadfinaaDoorW.PrintWords Go.Proofs.YtgnepbogadfinaaDoorW.PrintLast
theorem FnFractionsByAddresses : laws_FnFractionsByAddresses.Pure := by
  intro l0 l1 _ _ h0 _ _ h1
  exact fa_law (oct_of3 h0) (oct_of3 h1)
end Go.Proofs.YtgnepbogadfinaaDoor.Pure
