import Derived.Test.YtfkjjmmoipcddaaBa
import Derived.Test.YtfkjjmmoipcddaaPu
import Derived.Test.YtfkjjmmoipcddaaPh
import Derived.Test.YtfkjjmmoipcddaaFa
import Derived.Test.YtfkjjmmoipcddaaFb
import Derived.Test.YtfkjjmmoipcddaaFc
/- Fractions: plain Lean. -/
namespace Go.Proofs.Ytfkjjmmoipcddaa.N
set_option linter.unusedVariables false
set_option linter.unusedSimpArgs false

/-- Where the interval of an address begins. -/
def plA (a : List UInt8) : Nat := plI a a.length
theorem plI_append (a b : List UInt8) : ∀ i, i ≤ a.length → plI (a ++ b) i = plI a i
  | 0, _ => rfl
  | i + 1, h => by
    simp only [plI, plI_append a b i (by omega)]
    rw [List.getElem?_append_left (by omega)]
theorem plA_zero (a : List UInt8) : plA (a ++ [48]) = plA a := by
  unfold plA
  rw [List.length_append, List.length_singleton]
  simp only [plI]
  rw [plI_append _ _ _ (Nat.le_refl _), List.getElem?_append_right (Nat.le_refl _)]
  simp
theorem plA_one (a : List UInt8) : plA (a ++ [49]) = plA a + part (a.length + 1) := by
  unfold plA
  rw [List.length_append, List.length_singleton]
  simp only [plI]
  rw [plI_append _ _ _ (Nat.le_refl _), List.getElem?_append_right (Nat.le_refl _)]
  simp
/-- Intervals side by side from s to e. -/
def Chn (s e : Nat) : List (List UInt8) → Prop
  | [] => s = e
  | a :: l => plA a = s ∧ Chn (s + part a.length) e l
theorem Chn.append : ∀ {l1 l2 : List (List UInt8)} {s m e : Nat}, Chn s m l1 → Chn m e l2 → Chn s e (l1 ++ l2)
  | [], _, _, _, _, h1, h2 => by cases h1; exact h2
  | a :: l, _, _, _, _, h1, h2 => ⟨h1.1, h1.2.append h2⟩
theorem addrs_chn : ∀ (T : Tr) (a : List UInt8), a.length + T.depth ≤ 40 → Chn (plA a) (plA a + part a.length) (addrs T a)
  | .leaf, a, _ => ⟨rfl, rfl⟩
  | .node l r, a, h => by
    simp only [Tr.depth] at h
    have h1 := addrs_chn l (a ++ [48]) (by simp; omega)
    have h2 := addrs_chn r (a ++ [49]) (by simp; omega)
    rw [plA_zero] at h1
    rw [plA_one] at h2
    have e := part_step (k := a.length) (by omega)
    simp only [List.length_append, List.length_singleton] at h1 h2
    simp only [addrs]
    rw [e, show plA a + part (a.length + 1) * 2 = plA a + part (a.length + 1) + part (a.length + 1) by omega]
    exact h1.append h2
/-- The first interval that ends behind a place, else the last one. -/
def fi (p : Nat) : List (List UInt8) → Nat
  | [] => 0
  | a :: l => if p < plA a + part a.length then 0 else if l = [] then 0 else 1 + fi p l
theorem pcAt_fi (p : Nat) : ∀ l, pcAt l p = fi p l
  | [] => rfl
  | a :: l => by
    have ih := pcAt_fi p l
    unfold pcAt at ih ⊢
    simp only [fi]
    rw [List.findIdx?_cons]
    by_cases h : p < plA a + part a.length
    · rw [if_pos h, if_pos (by simpa [plA] using h)]; rfl
    · rw [if_neg h, if_neg (by simpa [plA] using h)]
      cases l with
      | nil => simp
      | cons b l =>
        rw [if_neg (by simp), ← ih]
        cases List.findIdx? (fun a => decide (p < plI a a.length + part a.length)) (b :: l) with
        | none => simp; omega
        | some x => simp; omega
theorem fi_in (p : Nat) : ∀ (l : List (List UInt8)) (s e : Nat), Chn s e l → l ≠ [] → s ≤ p → p ≤ e → ∃ a, l[fi p l]? = some a ∧ plA a ≤ p ∧ p ≤ plA a + part a.length
  | [], _, _, _, h, _, _ => absurd rfl h
  | a :: l, s, e, hc, _, hs, he => by
    simp only [fi]
    by_cases h : p < plA a + part a.length
    · rw [if_pos h]; exact ⟨a, rfl, by rw [hc.1]; exact hs, by omega⟩
    · rw [if_neg h]
      by_cases hl : l = []
      · rw [if_pos hl]
        subst hl
        have : s + part a.length = e := hc.2
        exact ⟨a, rfl, by rw [hc.1]; exact hs, by rw [hc.1]; omega⟩
      · rw [if_neg hl]
        obtain ⟨b, h1, h2, h3⟩ := fi_in p l _ e hc.2 hl (by rw [hc.1] at h; omega) he
        exact ⟨b, by rw [Nat.add_comm, List.getElem?_cons_succ]; exact h1, h2, h3⟩
/-- The last interval that begins at a place or ahead of it. -/
def si (p : Nat) : List (List UInt8) → Nat → Nat → Nat
  | [], _, c => c
  | a :: l, k, c => si p l (k + 1) (if plA a ≤ p then k else c)
theorem si_far (p : Nat) : ∀ (l : List (List UInt8)) (s e k c : Nat), Chn s e l → p < s → si p l k c = c
  | [], _, _, _, _, _, _ => rfl
  | a :: l, s, e, k, c, hc, h => by
    simp only [si]
    rw [hc.1, if_neg (by omega)]
    exact si_far p l _ e _ _ hc.2 (by omega)
theorem si_fi (p : Nat) : ∀ (l : List (List UInt8)) (s e k c : Nat), Chn s e l → l ≠ [] → s ≤ p → p ≤ e → si p l k c = k + fi p l
  | [], _, _, _, _, _, h, _, _ => absurd rfl h
  | a :: l, s, e, k, c, hc, _, hs, he => by
    simp only [si, fi]
    rw [hc.1, if_pos hs]
    by_cases h : p < s + part a.length
    · rw [if_pos h]; exact si_far p l _ e _ _ hc.2 h
    · rw [if_neg h]
      by_cases hl : l = []
      · subst hl; simp [si]
      · rw [if_neg hl, si_fi p l _ e _ _ hc.2 hl (by omega) he]; omega

/-- Where a leaf's interval is carried. -/
def vaL (a b : List UInt8) (p : Nat) : Nat := if b.length ≤ a.length then plA b + (p - plA a) * 2 ^ (a.length - b.length) else plA b + (p - plA a) / 2 ^ (b.length - a.length)
theorem part_pow {l s : Nat} (h : l + s ≤ 40) : part (l + s) * 2 ^ s = part l := by unfold part; rw [← Nat.pow_add]; congr 1; omega
theorem vaL_le (a b : List UInt8) (p : Nat) (ha : a.length ≤ 40) (hb : b.length ≤ 40) (h1 : plA a ≤ p) (h2 : p ≤ plA a + part a.length) : vaL a b p ≤ 1099511627776 ∧ (b.length ≤ a.length → (p - plA a) * 2 ^ (a.length - b.length) ≤ 1099511627776) := by
  have hB : plA b + part b.length ≤ 1099511627776 := plI_le b b.length hb
  unfold vaL
  split
  · rename_i h
    have e := part_pow (l := b.length) (s := a.length - b.length) (by omega)
    rw [show b.length + (a.length - b.length) = a.length by omega] at e
    have : (p - plA a) * 2 ^ (a.length - b.length) ≤ part a.length * 2 ^ (a.length - b.length) := Nat.mul_le_mul_right _ (by omega)
    constructor
    · omega
    · intro _; omega
  · rename_i h
    have e := part_pow (l := a.length) (s := b.length - a.length) (by omega)
    rw [show a.length + (b.length - a.length) = b.length by omega] at e
    have : (p - plA a) / 2 ^ (b.length - a.length) ≤ part b.length := by
      rw [← e] at h2
      refine Nat.div_le_of_le_mul ?_
      rw [Nat.mul_comm]; omega
    exact ⟨by omega, fun h' => absurd h' h⟩
/-- Where a pair of trees carries a place. -/
def vaF (A B : Tr) (p : Nat) : Nat := vaL ((addrs A []).getD (fi p (addrs A [])) []) ((addrs B []).getD (fi p (addrs A [])) []) p
def frF (V : Nat) : Option (Nat × Nat) := if (halve 40 V 1099511627776).2 ≤ 1024 then some (halve 40 V 1099511627776) else none
theorem goodB_true {n d : Int} (h : goodB n d = true) : ∃ m k : Nat, n = m ∧ d = ((2 ^ k : Nat) : Int) ∧ k ≤ 10 ∧ m ≤ 2 ^ k ∧ (k = 0 ∨ m % 2 = 1) := by
  unfold goodB at h
  simp only [Bool.and_eq_true, decide_eq_true_eq, Bool.or_eq_true, beq_iff_eq] at h
  obtain ⟨⟨⟨⟨h1, h2⟩, h3⟩, h4, h5⟩, h6⟩ := h
  obtain ⟨k, hk, hd⟩ := (isP2_iff _).1 h3
  refine ⟨n.toNat, k, by omega, by omega, hk, by omega, ?_⟩
  rcases h6 with h6 | h6
  · left
    rw [h6] at hd
    rcases Nat.eq_zero_or_pos k with h0 | h0
    · exact h0
    · have := Nat.pow_le_pow_right (show 0 < 2 by omega) h0
      simp at hd; omega
  · right; omega
end Go.Proofs.Ytfkjjmmoipcddaa.N
