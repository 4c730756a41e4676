import Derived.StillTactics
import Derived.Test.YtgnepbogadfinaaGreatDoorXm11
/- A part of the proof: lemmas that later parts use. -/
set_option linter.unusedVariables false
set_option linter.unusedSimpArgs false
namespace Go.Proofs.YtgnepbogadfinaaGreatDoor.N
open Go.RowKit
def stT : Nat → Nat → List UInt8 → Tr
  | 0, _, _ => .leaf
  | f + 1, p, a => if p ≤ plA a ∨ plA a + part a.length ≤ p then .leaf else .node (stT f p (a ++ [48])) (stT f p (a ++ [49]))
theorem plA_snoc (a : List UInt8) (c : UInt8) : plA (a ++ [c]) = plA a + if c = 49 then part (a.length + 1) else 0 := by
  unfold plA
  rw [List.length_append, List.length_singleton, plI, plI_append _ _ _ (Nat.le_refl _), List.getElem?_append_right (Nat.le_refl _), Nat.sub_self]
  simp
theorem plA_mod : ∀ (n : Nat) (a : List UInt8), a.length = n → n ≤ 40 → plA a % part n = 0
  | 0, a, h, _ => by
    rw [List.eq_nil_of_length_eq_zero h]; rfl
  | n + 1, a, h, hn => by
    have hne : a ≠ [] := fun e => by simp [e] at h
    rw [← List.dropLast_concat_getLast hne, plA_snoc]
    have hl : a.dropLast.length = n := by rw [List.length_dropLast, h]; rfl
    have := plA_mod n a.dropLast hl (by omega)
    rw [part_step (show n < 40 by omega)] at this
    have := Nat.mod_eq_zero_of_dvd (Nat.dvd_trans (Nat.dvd_mul_right _ 2) (Nat.dvd_of_mod_eq_zero this))
    split
    · rw [hl, Nat.add_mod_right]; exact this
    · exact this
def frT (p : Nat) (l : List (List UInt8)) : Nat := (l.filter fun a => decide (plA a < p)).length
end Go.Proofs.YtgnepbogadfinaaGreatDoor.N
namespace Go.Proofs.YtgnepbogadfinaaGreatDoor.N
def chb (b : Bool) : UInt8 := if b then 49 else 48
theorem addrs_adr : ∀ (T : Tr) (a : List UInt8) (k : Nat), k ≤ T.carets → (addrs T a)[k]? = some (a ++ (adr T k).map chb)
  | .leaf, a, k, h => by
    simp only [Tr.carets] at h
    obtain rfl : k = 0 := by omega
    simp [addrs, adr]
  | .node l r, a, k, h => by
    simp only [addrs, adr]
    by_cases hk : k < l.carets + 1
    · rw [if_pos hk, List.getElem?_append_left (by rw [addrs_length]; exact hk), addrs_adr l _ k (by omega)]; simp [chb]
    · rw [if_neg hk, List.getElem?_append_right (by rw [addrs_length]; omega), addrs_length, addrs_adr r _ _ (by simp only [Tr.carets] at h; omega)]; simp [chb]
theorem nb_snoc (b : Bool) : ∀ v : List Bool, nb (v ++ [b]) = 2 * nb v + (if b then 1 else 0)
  | [] => by simp [nb]
  | x :: v => by
    simp only [List.cons_append, nb, nb_snoc b v, List.length_append, List.length_singleton, Nat.pow_succ]
    cases x <;> simp <;> omega
theorem plA_bits : ∀ (n : Nat) (v : List Bool), v.length = n → n ≤ 40 → plA (v.map chb) = nb v * part n
  | 0, v, h, _ => by rw [List.eq_nil_of_length_eq_zero h]; rfl
  | n + 1, v, h, hn => by
    have hne : v ≠ [] := fun e => by simp [e] at h
    have hl : v.dropLast.length = n := by rw [List.length_dropLast, h]; rfl
    have ih := plA_bits n v.dropLast hl (by omega)
    rw [← List.dropLast_concat_getLast hne]
    generalize v.dropLast = u at *
    generalize v.getLast hne = b at *
    rw [List.map_append, List.map_singleton, plA_snoc, ih, nb_snoc, List.length_map, hl, part_step (show n < 40 by omega), Nat.add_mul]
    cases b <;> simp [chb] <;> ac_rfl
theorem adr_len (T : Tr) (k : Nat) (hk : k ≤ T.carets) : (adr T k).length ≤ T.carets := by
  have := addrs_depth T [] _ (List.mem_of_getElem? (addrs_adr T [] k hk))
  have := T.depth_le
  simp at *
  omega
theorem fi_strict (p : Nat) : ∀ (l : List (List UInt8)) (s e : Nat), Chn s e l → l ≠ [] → s ≤ p → p < e → ∃ a, l[fi p l]? = some a ∧ plA a ≤ p ∧ p < plA a + part a.length
  | [], _, _, _, h, _, _ => absurd rfl h
  | a :: l, s, e, hc, _, hs, he => by
    simp only [fi]
    by_cases h : p < plA a + part a.length
    · rw [if_pos h]; exact ⟨a, rfl, by rw [hc.1]; exact hs, h⟩
    · rw [if_neg h]
      by_cases hl : l = []
      · subst hl
        have : s + part a.length = e := hc.2
        have := hc.1
        omega
      · rw [if_neg hl]
        obtain ⟨b, h1, h2, h3⟩ := fi_strict p l _ e hc.2 hl (by rw [hc.1] at h; omega) he
        exact ⟨b, by rw [Nat.add_comm, List.getElem?_cons_succ]; exact h1, h2, h3⟩
theorem fi_lt (p : Nat) : ∀ (l : List (List UInt8)), l ≠ [] → fi p l < l.length
  | [], h => absurd rfl h
  | a :: l, _ => by
    simp only [fi, List.length_cons]
    split
    · omega
    · split
      · omega
      · rename_i h
        have := fi_lt p l h
        omega
theorem leaf_at (A : Tr) (hA : A.carets ≤ 40) {p : Nat} (hp : p < 1099511627776) : fi p (addrs A []) ≤ A.carets ∧ (adr A (fi p (addrs A []))).length ≤ A.carets ∧ (addrs A []).getD (fi p (addrs A [])) [] = (adr A (fi p (addrs A []))).map chb ∧
    nb (adr A (fi p (addrs A []))) * part (adr A (fi p (addrs A []))).length ≤ p ∧ p < nb (adr A (fi p (addrs A []))) * part (adr A (fi p (addrs A []))).length + part (adr A (fi p (addrs A []))).length := by
  have cA := addrs_chn A [] (by have := A.depth_le; simp; omega)
  have hne : addrs A [] ≠ [] := fun h => by have := addrs_length A []; rw [h] at this; simp at this
  have h1 := fi_lt p _ hne
  rw [addrs_length] at h1
  obtain ⟨a, ha, h2, h3⟩ := fi_strict p (addrs A []) _ _ cA hne (by show 0 ≤ p; omega) (by show p < 0 + part 0; rw [part_zero]; omega)
  have e := addrs_adr A [] (fi p (addrs A [])) (by omega)
  rw [ha, List.nil_append] at e
  have e := Option.some.inj e
  have hl := adr_len A (fi p (addrs A [])) (by omega)
  refine ⟨by omega, hl, by rw [List.getD_eq_getElem?_getD, ha]; exact e, ?_⟩
  rw [e, plA_bits _ _ rfl (by omega), List.length_map] at h3
  rw [e, plA_bits _ _ rfl (by omega)] at h2
  exact ⟨h2, h3⟩
theorem sp_in (v : List Bool) (hv : v.length ≤ 40) {p : Nat} (h1 : nb v * part v.length ≤ p) (h2 : p < nb v * part v.length + part v.length) : sp p = sapp v (sp ((p - nb v * part v.length) * 2 ^ v.length)) := by
  rw [sapp_sp v _ hv (by omega)]
  congr 1
  omega
theorem sp_inj {p q : Nat} (hp : p < 1099511627776) (hq : q < 1099511627776) (h : sp p = sp q) : p = q := by
  refine Nat.eq_of_testBit_eq fun i => ?_
  by_cases hi : i < 40
  · have := congrFun h (39 - i)
    simp only [sp] at this
    rw [decide_eq_true (show 39 - i < 40 by omega), Bool.true_and, Bool.true_and, show 39 - (39 - i) = i by omega] at this
    exact this
  · have e : (1099511627776 : Nat) = 2 ^ 40 := rfl
    rw [Nat.testBit_lt_two_pow (Nat.lt_of_lt_of_le hp (by rw [e]; exact Nat.pow_le_pow_right (by omega) (by omega))), Nat.testBit_lt_two_pow (Nat.lt_of_lt_of_le hq (by rw [e]; exact Nat.pow_le_pow_right (by omega) (by omega)))]
theorem nb_part (v : List Bool) (hv : v.length ≤ 40) : nb v * part v.length + part v.length ≤ 1099511627776 := by
  have := Nat.mul_le_mul_right (part v.length) (show nb v + 1 ≤ 2 ^ v.length from nb_lt v)
  rw [part_mul hv, Nat.add_mul, Nat.one_mul] at this
  exact this
theorem act_sp {A B : Tr} (hc : A.carets = B.carets) (hB : B.carets ≤ 20) {p : Nat} (hp : p < 1099511627776) (hg : p % 1048576 = 0) : act (A, B) (sp p) = sp (vaF A B p) ∧ vaF A B p < 1099511627776 := by
  obtain ⟨h1, h2, h3, h4, h5⟩ := leaf_at A (by omega) hp
  unfold vaF
  rw [h3]
  generalize fi p (addrs A []) = k at *
  have hb := addrs_adr B [] k (by omega)
  rw [List.nil_append] at hb
  rw [List.getD_eq_getElem?_getD, hb, Option.getD_some]
  have hw := adr_len B k (by omega)
  unfold act
  rw [find_eq (t := sp ((p - nb (adr A k) * part (adr A k).length) * 2 ^ (adr A k).length)) h1 (sp_in _ (by omega) h4 h5)]
  simp only
  generalize adr A k = v at *
  generalize adr B k = w at *
  unfold vaL
  simp only [List.length_map]
  rw [plA_bits _ v rfl (by omega), plA_bits _ w rfl (by omega)]
  have nw := nb_part w (by omega)
  by_cases h : w.length ≤ v.length
  · rw [if_pos h]
    have e := part_pow (l := w.length) (s := v.length - w.length) (by omega)
    rw [show w.length + (v.length - w.length) = v.length by omega] at e
    have hlt := Nat.mul_lt_mul_of_pos_right (show p - nb v * part v.length < part v.length by omega) (Nat.two_pow_pos (v.length - w.length))
    rw [e] at hlt
    refine ⟨?_, by omega⟩
    rw [← sapp_sp w _ (by omega) hlt, Nat.mul_assoc, ← Nat.pow_add, show v.length - w.length + w.length = v.length by omega]
  · rw [if_neg h]
    have e := part_pow (l := v.length) (s := w.length - v.length) (by omega)
    rw [show v.length + (w.length - v.length) = w.length by omega] at e
    have hd : 2 ^ (w.length - v.length) ∣ p - nb v * part v.length := by
      refine Nat.dvd_sub ?_ ?_
      · exact Nat.dvd_trans (show 2 ^ (w.length - v.length) ∣ 1048576 from ⟨2 ^ (20 - (w.length - v.length)), by rw [← Nat.pow_add, show w.length - v.length + (20 - (w.length - v.length)) = 20 by omega]⟩) (Nat.dvd_of_mod_eq_zero hg)
      · rw [← e, ← Nat.mul_assoc]; exact Nat.dvd_mul_left _ _
    obtain ⟨x, hx⟩ := hd
    rw [hx, Nat.mul_div_cancel_left _ (Nat.two_pow_pos _)]
    have hxl : x < part w.length := by
      apply Nat.lt_of_not_le
      intro hle
      have := Nat.mul_le_mul_left (2 ^ (w.length - v.length)) hle
      rw [Nat.mul_comm _ (part w.length), e] at this
      omega
    refine ⟨?_, by omega⟩
    rw [← sapp_sp w x (by omega) hxl, show 2 ^ (w.length - v.length) * x * 2 ^ v.length = x * 2 ^ w.length by
      rw [Nat.mul_comm (2 ^ (w.length - v.length)) x, Nat.mul_assoc, ← Nat.pow_add, show w.length - v.length + v.length = w.length by omega]]
end Go.Proofs.YtgnepbogadfinaaGreatDoor.N
namespace Go.Proofs.YtgnepbogadfinaaGreatDoor.N
theorem chn_up : ∀ {l : List (List UInt8)} {s e : Nat}, Chn s e l → s ≤ e
  | [], s, e, h => by cases h; exact Nat.le_refl _
  | a :: l, s, e, h => by have := chn_up h.2; omega
end Go.Proofs.YtgnepbogadfinaaGreatDoor.N
