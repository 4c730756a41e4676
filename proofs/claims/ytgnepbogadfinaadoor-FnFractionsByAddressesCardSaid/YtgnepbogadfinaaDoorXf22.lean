import Derived.Test.YtgnepbogadfinaaDoorXf16
import Derived.Test.YtgnepbogadfinaaDoorXf17
import Derived.Test.YtgnepbogadfinaaDoorXf20
/- A part of the proof: lemmas that later parts use. -/
set_option linter.unusedVariables false
set_option linter.unusedSimpArgs false
namespace Go.Proofs.YtgnepbogadfinaaDoor.N
theorem halve_back (m k : Nat) (ho : k = 0 ∨ m % 2 = 1) : ∀ s f, s ≤ f → halve f (m * 2 ^ s) (2 ^ (k + s)) = (m, 2 ^ k)
  | 0, f, _ => by
    rw [Nat.pow_zero, Nat.mul_one, Nat.add_zero]
    refine halve_stop f m _ ?_
    rintro ⟨h1, h2⟩
    rcases ho with rfl | ho
    · simp at h1
    · omega
  | s + 1, f, h => by
    obtain ⟨f, rfl⟩ : ∃ f', f = f' + 1 := ⟨f - 1, by omega⟩
    have e1 : m * 2 ^ (s + 1) = (m * 2 ^ s) * 2 := by rw [Nat.pow_succ, Nat.mul_assoc]
    have e2 : 2 ^ (k + (s + 1)) = 2 ^ (k + s) * 2 := by rw [← Nat.add_assoc, Nat.pow_succ]
    have hp := Nat.two_pow_pos (k + s)
    unfold halve
    rw [e1, e2, if_pos ⟨by omega, Nat.mul_mod_left _ _⟩, Nat.mul_div_cancel _ (by omega), Nat.mul_div_cancel _ (by omega)]
    exact halve_back m k ho s f (by omega)
theorem halve_frac (m k : Nat) (hk : k ≤ 10) (ho : k = 0 ∨ m % 2 = 1) : halve 40 (m * part k) 1099511627776 = (m, 2 ^ k) := by
  have := halve_back m k ho (40 - k) 40 (by omega)
  rw [show k + (40 - k) = 40 by omega] at this
  exact this
theorem FrOk.back {x : Nat × Nat} (h : FrOk x) : halve 40 (plc x) 1099511627776 = x := by
  obtain ⟨m, k, h1, h2, h3, h4, h5⟩ := goodB_true h
  obtain ⟨a, b⟩ := x
  simp only at h1 h2
  obtain rfl : a = m := by omega
  obtain rfl : b = 2 ^ k := by omega
  unfold plc
  dsimp only
  rw [part_div (by omega)]
  exact halve_frac a k h3 h5
theorem FrOk.frF {x : Nat × Nat} (h : FrOk x) : frF (plc x) = some x := by
  unfold N.frF
  rw [h.back, if_pos h.small]
theorem frF_some {V : Nat} {y : Nat × Nat} (hV : V ≤ 1099511627776) (h : frF V = some y) : FrOk y ∧ plc y = V := by
  unfold frF at h
  split at h
  · rename_i hd
    have e := Option.some.inj h
    rw [← e]
    refine ⟨?_, halve_place V 40 V 40 (Nat.le_refl _) (by simp)⟩
    unfold FrOk
    rw [goodB_halve V hV]
    exact decide_eq_true hd
  · cases h
theorem FrOk.le {x : Nat × Nat} (h : FrOk x) : plc x ≤ 1099511627776 := h.place
theorem FrOk.zero {x : Nat × Nat} (h : FrOk x) : x.1 = 0 ↔ plc x = 0 := by
  obtain ⟨k, h1, h2, h3⟩ := h.form
  unfold plc
  rw [h2, part_div (by omega)]
  have : 0 < part k := Nat.two_pow_pos _
  constructor
  · intro h; rw [h, Nat.zero_mul]
  · intro h
    rcases Nat.mul_eq_zero.1 h with h | h
    · exact h
    · omega
theorem FrOk.whole {x : Nat × Nat} (h : FrOk x) : x.1 = x.2 ↔ plc x = 1099511627776 := by
  obtain ⟨k, h1, h2, h3⟩ := h.form
  have e := part_mul (k := k) (by omega)
  unfold plc
  rw [h2, part_div (by omega)]
  have hp : 0 < part k := Nat.two_pow_pos _
  constructor
  · intro h; rw [h, e]
  · intro h
    rw [← e] at h
    exact Nat.eq_of_mul_eq_mul_right hp h
theorem adB_bits {a : List UInt8} (h : adB a = true) : Bits a ∧ a.length ≤ 10 := by
  unfold adB at h
  rw [Bool.and_eq_true] at h
  refine ⟨fun c hc => ?_, of_decide_eq_true h.1⟩
  have := List.all_eq_true.1 h.2 c hc
  simpa using this
theorem adB_of {a : List UInt8} (h : Bits a) (hl : a.length ≤ 10) : adB a = true := by
  unfold adB
  rw [decide_eq_true hl, Bool.true_and, List.all_eq_true]
  intro c hc
  rcases h c hc with rfl | rfl <;> rfl
theorem plA_lt {a : List UInt8} (hl : a.length ≤ 40) : plA a < 1099511627776 := by
  have := plI_le a a.length hl
  have h0 : 0 < part a.length := Nat.two_pow_pos _
  unfold plA
  omega
theorem plA_gap {a : List UInt8} (hl : a.length ≤ 10) : plA a % 1073741824 = 0 := by
  have := plA_mod a.length a rfl (by omega)
  refine Nat.mod_eq_zero_of_dvd (Nat.dvd_trans ?_ (Nat.dvd_of_mod_eq_zero this))
  rw [show (1073741824 : Nat) = 2 ^ 30 from rfl]
  unfold part
  exact Nat.pow_dvd_pow 2 (by omega)
end Go.Proofs.YtgnepbogadfinaaDoor.N
namespace Go.Proofs.YtgnepbogadfinaaDoor.N
def ltr (p i : Nat) : UInt8 := if p / part (i + 1) % 2 = 1 then 49 else 48
def adS (p : Nat) : Nat → List UInt8
  | 0 => []
  | n + 1 => adS p n ++ [ltr p n]
theorem adS_length (p : Nat) : ∀ n, (adS p n).length = n
  | 0 => rfl
  | n + 1 => by simp [adS, adS_length p n]
theorem adS_bits (p : Nat) : ∀ n, Bits (adS p n)
  | 0 => fun c h => by cases h
  | n + 1 => fun c h => by
    rcases List.mem_append.1 h with h | h
    · exact adS_bits p n c h
    · simp only [List.mem_singleton] at h
      rw [h]; unfold ltr; split <;> simp
theorem adS_place (p : Nat) : ∀ n, n ≤ 40 → p < 1099511627776 → plA (adS p n) = p / part n * part n
  | 0, _, h => by
    rw [part_zero, Nat.div_eq_of_lt h]; rfl
  | n + 1, hn, h => by
    have ih := adS_place p n (by omega) h
    have ps := part_step (show n < 40 by omega)
    have pp : 0 < part (n + 1) := Nat.two_pow_pos _
    simp only [adS]
    rw [plA_snoc, ih, adS_length, ps]
    have e1 : p / (part (n + 1) * 2) = p / part (n + 1) / 2 := (Nat.div_div_eq_div_mul _ _ _).symm
    rw [e1]
    unfold ltr
    generalize p / part (n + 1) = q
    have hq := Nat.div_add_mod q 2
    have e2 : q / 2 * (part (n + 1) * 2) = (2 * (q / 2)) * part (n + 1) := by ac_rfl
    rw [e2]
    rcases Nat.mod_two_eq_zero_or_one q with h0 | h0
    · rw [h0, if_neg (by decide), Nat.add_zero, show 2 * (q / 2) = q by omega]
    · rw [h0, if_pos rfl, if_pos rfl, ← Nat.succ_mul, show (2 * (q / 2)).succ = q by omega]
theorem ltr_congr (p q i n : Nat) (hi : i < n) (hn : n ≤ 40) (h : p / part n = q / part n) : ltr p i = ltr q i := by
  have e : part (i + 1) = part n * 2 ^ (n - (i + 1)) := by
    unfold part
    rw [← Nat.pow_add]; congr 1; omega
  unfold ltr
  rw [e, ← Nat.div_div_eq_div_mul, ← Nat.div_div_eq_div_mul, h]
theorem adS_congr (p q n : Nat) (hn : n ≤ 40) (h : p / part n = q / part n) : ∀ j, j ≤ n → adS p j = adS q j
  | 0, _ => rfl
  | j + 1, hj => by
    simp only [adS]
    rw [adS_congr p q n hn h j (by omega), ltr_congr p q j n (by omega) hn h]
theorem adS_back : ∀ (n : Nat) (a : List UInt8), a.length = n → n ≤ 40 → Bits a → adS (plA a) n = a
  | 0, a, h, _, _ => (List.eq_nil_of_length_eq_zero h).symm
  | n + 1, a, h, hn, hb => by
    have hne : a ≠ [] := fun e => by simp [e] at h
    rw [← List.dropLast_concat_getLast hne] at hb ⊢
    have hl : a.dropLast.length = n := by rw [List.length_dropLast, h]; rfl
    generalize a.dropLast = u at *
    generalize a.getLast hne = c at *
    have hu : Bits u := fun x hx => hb x (List.mem_append_left _ hx)
    have hc := hb c (List.mem_append_right _ (List.mem_singleton_self _))
    have ih := adS_back n u hl (by omega) hu
    have ps := part_step (show n < 40 by omega)
    have pp : 0 < part (n + 1) := Nat.two_pow_pos _
    have pm := plA_mod n u hl (by omega)
    obtain ⟨z, hz⟩ := Nat.dvd_of_mod_eq_zero pm
    have e1 : plA (u ++ [c]) / part n = plA u / part n := by
      rw [plA_snoc, hl, hz, ps]
      split
      · rw [Nat.mul_add_div (by omega), Nat.mul_div_cancel_left _ (by omega), Nat.div_eq_of_lt (by omega), Nat.add_zero]
      · rw [Nat.add_zero]
    simp only [adS]
    rw [adS_congr _ _ n (by omega) e1 n (Nat.le_refl _), ih]
    congr 2
    have e2 : plA (u ++ [c]) / part (n + 1) = 2 * z + if c = 49 then 1 else 0 := by
      rw [plA_snoc, hl, hz, ps]
      have : part (n + 1) * 2 * z = part (n + 1) * (2 * z) := by ac_rfl
      rw [this]
      split
      · rw [Nat.mul_add_div pp, Nat.div_self pp]
      · rw [Nat.add_zero, Nat.mul_div_cancel_left _ pp]; rfl
    unfold ltr
    rw [e2]
    rcases hc with rfl | rfl
    · have e3 : (2 * z + if (48 : UInt8) = 49 then 1 else 0) % 2 = 0 := by rw [if_neg (by decide)]; omega
      rw [e3]; rfl
    · have e3 : (2 * z + if (49 : UInt8) = 49 then 1 else 0) % 2 = 1 := by rw [if_pos rfl]; omega
      rw [e3]; rfl
theorem ltr_num (m k n i : Nat) (hi : i < n) (hk : k ≤ n) (hn : n ≤ 40) : ltr (m * part k) i = if (m * 2 ^ (n - k)) / 2 ^ (n - 1 - i) % 2 = 1 then 49 else 48 := by
  have e : part k = part n * 2 ^ (n - k) := by unfold part; rw [← Nat.pow_add]; congr 1; omega
  have e1 : part (i + 1) = part n * 2 ^ (n - 1 - i) := by unfold part; rw [← Nat.pow_add]; congr 1; omega
  have pp : 0 < part n := Nat.two_pow_pos _
  unfold ltr
  rw [e, e1, show m * (part n * 2 ^ (n - k)) = part n * (m * 2 ^ (n - k)) by ac_rfl, Nat.mul_div_mul_left _ _ pp]
theorem chn_next : ∀ {l : List (List UInt8)} {s e : Nat} {j : Nat} {a b : List UInt8}, Chn s e l → l[j]? = some a → l[j + 1]? = some b → plA b = plA a + part a.length
  | [], _, _, _, _, _, _, h, _ => by simp at h
  | x :: l, s, e, 0, a, b, hc, h1, h2 => by
    simp at h1
    subst h1
    cases l with
    | nil => simp at h2
    | cons y l =>
      simp at h2
      subst h2
      rw [hc.2.1, hc.1]
  | x :: l, s, e, j + 1, a, b, hc, h1, h2 => by
    rw [List.getElem?_cons_succ] at h1 h2
    exact chn_next hc.2 h1 h2
theorem fi_end (p : Nat) : ∀ (l : List (List UInt8)) (a : List UInt8), l[fi p l]? = some a → fi p l + 1 < l.length → p < plA a + part a.length
  | [], _, h, _ => by simp at h
  | x :: l, a, h, hl => by
    simp only [fi] at h hl ⊢
    by_cases h1 : p < plA x + part x.length
    · rw [if_pos h1] at h; simp at h; subst h; exact h1
    · rw [if_neg h1] at h hl
      by_cases hn : l = []
      · subst hn; simp at hl
      · rw [if_neg hn] at h hl
        rw [Nat.add_comm, List.getElem?_cons_succ] at h
        simp only [List.length_cons] at hl
        exact fi_end p l a h (by omega)
theorem stF_ok {a : List UInt8} (ha : a.length ≤ 10) : FrOk (stF a) ∧ plc (stF a) = plA a := by
  have e := stF_halve a (by omega)
  have h1 := plA_lt (a := a) (by omega)
  have hd : (halve 40 (plA a) 1099511627776).2 ≤ 1024 := by
    rw [← e]
    exact Nat.le_trans (sD_le a) (Nat.pow_le_pow_right (show 0 < 2 by omega) ha)
  have hf : frF (plA a) = some (stF a) := by unfold frF; rw [if_pos hd, e]
  exact frF_some (by omega) hf
end Go.Proofs.YtgnepbogadfinaaDoor.N
