import Derived.Test.YtpmmajfdcicjiaaGreatG1RFnHalvesAndShifts
import Derived.Test.YtpmmajfdcicjiaaGreatG3RFnHalvesAndShifts
import Derived.Test.YtpmmajfdcicjiaaGreatG4RFnHalvesAndShifts
import Derived.Test.YtpmmajfdcicjiaaGreatG12RFnHalvesAndShifts
import Derived.Test.YtpmmajfdcicjiaaGreatG13RFnHalvesAndShifts
import Derived.Test.YtpmmajfdcicjiaaGreatG19RFnHalvesAndShifts
import Derived.Test.YtpmmajfdcicjiaaGreatG17RFnHalvesAndShifts
import Derived.Test.YtpmmajfdcicjiaaGreatG32RFnHalvesAndShifts
import Derived.Test.YtpmmajfdcicjiaaGreatG27RFnHalvesAndShifts
import Derived.Test.YtpmmajfdcicjiaaGreatG29RFnHalvesAndShifts
import Derived.Test.YtpmmajfdcicjiaaGreatG28RFnHalvesAndShifts
import Derived.Test.YtpmmajfdcicjiaaGreatG31RFnHalvesAndShifts
/- The value at one half; sums of what is shifted: plain Lean. -/
namespace Go.Proofs.YtpmmajfdcicjiaaGreat.N
set_option linter.unusedVariables false
set_option linter.unusedSimpArgs false

theorem split_fix {p : Tr × Tr} (hp : Bal p) : (splitT p).isSome = true ↔ ∀ s, act p s 0 = s 0 := by
  unfold Bal at hp
  rcases p with ⟨A, B⟩
  simp only at hp
  cases A with
  | leaf =>
    have : B = .leaf := carets_zero (by simp only [Tr.carets] at hp; omega)
    subst this
    exact ⟨fun _ s => rfl, fun _ => rfl⟩
  | node l r =>
    cases B with
    | leaf => simp only [Tr.carets] at hp; omega
    | node c d =>
      have hs : (splitT (Tr.node l r, Tr.node c d)).isSome = true ↔ l.carets = c.carets := by
        simp only [splitT]
        split
        · rename_i h; simp [h]
        · rename_i h; simp [h]
      rw [hs]
      simp only [Tr.carets] at hp
      constructor
      · intro hc s
        have e : (Tr.node l r, Tr.node c d) = hv (l, c) (r, d) := rfl
        rw [e]
        refine str_cases (P := fun s => act (hv (l, c) (r, d)) s 0 = s 0) (fun s => ?_) (fun s => ?_) s
        · rw [act_hv_l (show Bal (l, c) from hc)]; rfl
        · rw [act_hv_r (show Bal (l, c) from hc)]; rfl
      · intro h
        rcases Nat.lt_trichotomy l.carets c.carets with hlt | he | hlt
        · exfalso
          have h1 := act_at (Tr.node l r, Tr.node c d) (l.carets + 1) (by simp only [Tr.carets]; omega) (fun _ => false)
          have h2 := h (sapp (adr (Tr.node l r) (l.carets + 1)) (fun _ => false))
          rw [h1] at h2
          simp only [adr] at h2
          rw [if_pos (by omega), if_neg (by omega)] at h2
          cases h2
        · exact he
        · exfalso
          have h1 := act_at (Tr.node l r, Tr.node c d) (c.carets + 1) (by simp only [Tr.carets]; omega) (fun _ => false)
          have h2 := h (sapp (adr (Tr.node l r) (c.carets + 1)) (fun _ => false))
          rw [h1] at h2
          simp only [adr] at h2
          rw [if_neg (by omega), if_pos (by omega)] at h2
          cases h2
theorem split_red {p : Tr × Tr} (hp : Bal p) : (splitT (red p)).isSome = (splitT p).isSome := by
  have h : (splitT (red p)).isSome = true ↔ (splitT p).isSome = true := by
    rw [split_fix hp, split_fix hp.red]
    constructor
    · intro h s; rw [← act_red hp]; exact h s
    · intro h s; rw [act_red hp]; exact h s
  cases e : (splitT (red p)).isSome <;> cases e2 : (splitT p).isSome <;> simp_all
theorem part_pos (k : Nat) : 0 < part k := Nat.two_pow_pos _
theorem chn_le : ∀ {l : List (List UInt8)} {s e : Nat}, Chn s e l → s ≤ e
  | [], _, _, h => by cases h; exact Nat.le_refl _
  | a :: l, s, e, h => Nat.le_trans (Nat.le_add_right _ _) (chn_le h.2)
theorem fi_split : ∀ (l1 : List (List UInt8)) {s m e : Nat} (a : List UInt8) (l2 : List (List UInt8)), Chn s m l1 → Chn m e (a :: l2) → fi m (l1 ++ a :: l2) = l1.length
  | [], s, m, e, a, l2, _, h2 => by
    simp only [List.nil_append, fi, List.length_nil]
    rw [if_pos (by rw [h2.1]; have := part_pos a.length; omega)]
  | x :: l1, s, m, e, a, l2, h1, h2 => by
    have hle := chn_le h1.2
    simp only [List.cons_append, fi, List.length_cons]
    rw [if_neg (by rw [h1.1]; omega), if_neg (by simp), fi_split l1 a l2 h1.2 h2]
    omega
theorem chn_at : ∀ {l : List (List UInt8)} {s e : Nat} (j : Nat) (b : List UInt8), Chn s e l → l[j]? = some b → s ≤ plA b ∧ (0 < j → s < plA b)
  | [], _, _, j, b, _, h => by simp at h
  | a :: l, s, e, 0, b, hc, h => by
    have e1 : a = b := by simpa using h
    subst e1
    exact ⟨by rw [hc.1]; exact Nat.le_refl _, fun h => absurd h (Nat.lt_irrefl _)⟩
  | a :: l, s, e, j + 1, b, hc, h => by
    have := (chn_at j b hc.2 (by simpa using h)).1
    have := part_pos a.length
    exact ⟨by omega, fun _ => by omega⟩
theorem chn_mono : ∀ {l : List (List UInt8)} {s e : Nat} (i j : Nat) (a b : List UInt8), Chn s e l → l[i]? = some a → l[j]? = some b → i < j → plA a < plA b
  | [], _, _, i, j, a, b, _, h, _, _ => by simp at h
  | x :: l, s, e, 0, j + 1, a, b, hc, ha, hb, _ => by
    have e1 : x = a := by simpa using ha
    subst e1
    rw [hc.1]
    exact (chn_at (j + 1) b hc hb).2 (Nat.succ_pos _)
  | x :: l, s, e, i + 1, j + 1, a, b, hc, ha, hb, h => chn_mono i j a b hc.2 (by simpa using ha) (by simpa using hb) (by omega)
  | x :: l, s, e, i + 1, 0, a, b, hc, ha, hb, h => absurd h (by omega)
  | x :: l, s, e, 0, 0, a, b, hc, ha, hb, h => absurd h (by omega)
theorem half_chn (l r : Tr) (h : l.depth + r.depth ≤ 30) : Chn 0 (part 1) (addrs l [48]) ∧ Chn (part 1) (part 0) (addrs r [49]) := by
  have h1 := addrs_chn l [48] (by simp; omega)
  have h2 := addrs_chn r [49] (by simp; omega)
  have e1 : plA [48] = 0 := by decide
  have e2 : plA [49] = part 1 := by decide
  rw [e1] at h1
  rw [e2] at h2
  have e3 : part 1 + part 1 = part 0 := by decide
  simp only [List.length_singleton] at h1 h2
  rw [e3] at h2
  rw [Nat.zero_add] at h1
  exact ⟨h1, h2⟩
/-- Where one half is carried. -/
theorem half_value (A B : Tr) (hc : A.carets = B.carets) (hB : B.carets ≤ 8) : vaF A B (part 1) = part 1 ↔ (splitT (A, B)).isSome = true := by
  cases A with
  | leaf =>
    have : B = .leaf := carets_zero (by simp only [Tr.carets] at hc; omega)
    subst this
    exact ⟨fun _ => rfl, fun _ => by decide⟩
  | node l r =>
    cases B with
    | leaf => simp only [Tr.carets] at hc; omega
    | node c d =>
      simp only [Tr.carets] at hc hB
      have dl := l.depth_le
      have dr := r.depth_le
      have dc := c.depth_le
      have dd := d.depth_le
      obtain ⟨a1, a2⟩ := half_chn l r (by omega)
      obtain ⟨b1, b2⟩ := half_chn c d (by omega)
      obtain ⟨x, lx, ex⟩ : ∃ x lx, addrs r [49] = x :: lx := by
        cases e : addrs r [49] with
        | nil => have := addrs_length r [49]; rw [e] at this; simp at this
        | cons x lx => exact ⟨x, lx, rfl⟩
      obtain ⟨y, ly, ey⟩ : ∃ y ly, addrs d [49] = y :: ly := by
        cases e : addrs d [49] with
        | nil => have := addrs_length d [49]; rw [e] at this; simp at this
        | cons x lx => exact ⟨x, lx, rfl⟩
      have hA : addrs (.node l r) [] = addrs l [48] ++ x :: lx := by simp only [addrs, List.nil_append]; rw [ex]
      have hBB : addrs (.node c d) [] = addrs c [48] ++ y :: ly := by simp only [addrs, List.nil_append]; rw [ey]
      rw [ex] at a2
      rw [ey] at b2
      have hf : fi (part 1) (addrs (.node l r) []) = l.carets + 1 := by rw [hA, fi_split _ x lx a1 a2, addrs_length]
      have hx : (addrs (.node l r) []).getD (l.carets + 1) [] = x := by
        rw [hA, List.getD_eq_getElem?_getD, List.getElem?_append_right (by rw [addrs_length]; exact Nat.le_refl _), addrs_length, Nat.sub_self]; rfl
      have hlB : (addrs (.node c d) []).length = 1 + c.carets + d.carets + 1 := by rw [addrs_length]; rfl
      obtain ⟨z, hz⟩ : ∃ z, (addrs (.node c d) [])[l.carets + 1]? = some z := ⟨_, List.getElem?_eq_getElem (by omega)⟩
      have hzD : (addrs (.node c d) []).getD (l.carets + 1) [] = z := by rw [List.getD_eq_getElem?_getD, hz]; rfl
      have hy : (addrs (.node c d) [])[c.carets + 1]? = some y := by
        rw [hBB, List.getElem?_append_right (by rw [addrs_length]; exact Nat.le_refl _), addrs_length, Nat.sub_self]; rfl
      have hC : Chn 0 (part 0) (addrs (.node c d) []) := by rw [hBB]; exact b1.append b2
      have hv : vaF (.node l r) (.node c d) (part 1) = plA z := by
        unfold vaF
        rw [hf, hx, hzD]
        unfold vaL
        rw [show part 1 - plA x = 0 from by rw [a2.1]; omega]
        simp
      have hs : (splitT (Tr.node l r, Tr.node c d)).isSome = true ↔ l.carets = c.carets := by
        simp only [splitT]
        split
        · rename_i h; simp [h]
        · rename_i h; simp [h]
      rw [hv, hs]
      constructor
      · intro e
        rcases Nat.lt_trichotomy l.carets c.carets with h | h | h
        · have := chn_mono _ _ z y hC hz hy (by omega); rw [b2.1] at this; omega
        · exact h
        · have := chn_mono _ _ y z hC hy hz (by omega); rw [b2.1] at this; omega
      · intro e
        rw [e, hy] at hz
        injection hz with hz
        rw [← hz, b2.1]
theorem halve_half (V : Nat) : halve 40 V 1099511627776 = (1, 2) ↔ V = part 1 := by
  have h := halve_gcd 40 V
  rw [show (2 : Nat) ^ 40 = 1099511627776 from by decide] at h
  constructor
  · intro e
    rw [e] at h
    injection h with h1 h2
    have g2 : Nat.gcd V 1099511627776 ∣ 1099511627776 := Nat.gcd_dvd_right _ _
    have g1 : Nat.gcd V 1099511627776 ∣ V := Nat.gcd_dvd_left _ _
    have e1 := Nat.div_mul_cancel g1
    have e2 := Nat.div_mul_cancel g2
    rw [← h1] at e1
    rw [← h2] at e2
    show V = 549755813888
    omega
  · rintro rfl
    decide
end Go.Proofs.YtpmmajfdcicjiaaGreat.N
/- Sums of what is shifted: plain Lean. -/
namespace Go.Proofs.YtpmmajfdcicjiaaGreat.N
set_option linter.unusedVariables false
set_option linter.unusedSimpArgs false

def away (x : Int) : Int := if x < 0 then x - 1 else x + 1
theorem replicate_away (n : Nat) (k : Nat) : (List.replicate n ((k : Int) + 1)).map away = List.replicate n (((k + 1 : Nat) : Int) + 1) := by
  have e : away ((k : Int) + 1) = ((k + 1 : Nat) : Int) + 1 := by unfold away; rw [if_neg (by omega)]; omega
  rw [List.map_replicate, e]
theorem wordT_shift (xs : List Nat) : ∀ k, wordT (0 :: xs) (k + 1) = (wordT xs k).map away
  | 0 => rfl
  | k + 1 => by
    have ih := wordT_shift xs k
    show wordT (0 :: xs) (k + 1) ++ List.replicate ((0 :: xs).getD (k + 1) 0) (((k + 1 : Nat) : Int) + 1) = (wordT xs k ++ List.replicate (xs.getD k 0) ((k : Int) + 1)).map away
    rw [ih, List.map_append, replicate_away]
    rfl
theorem wordL_shift (xs : List Nat) : wordL (0 :: xs) = (wordL xs).map away := by
  unfold wordL
  rw [List.length_cons, wordT_shift]
theorem away_neg (x : Int) (h : x ≠ 0) : away (-x) = - away x := by
  unfold away
  split <;> split <;> omega
theorem invL_away (ws : List Int) (h : ∀ x ∈ ws, x ≠ 0) : invL (ws.map away) = (invL ws).map away := by
  unfold invL
  rw [List.map_reverse, List.map_map, List.map_map]
  congr 1
  apply List.map_congr_left
  intro x hx
  simp only [Function.comp]
  rw [away_neg x (h x hx)]
theorem wordT_pos (xs : List Nat) : ∀ k, ∀ x ∈ wordT xs k, 0 < x
  | 0, x, h => by simp [wordT] at h
  | k + 1, x, h => by
    simp only [wordT, List.mem_append] at h
    rcases h with h | h
    · exact wordT_pos xs k x h
    · have := List.eq_of_mem_replicate h; omega
theorem wordP_hv (p : Tr × Tr) : wordP (hv one p) = (wordP p).map away := by
  unfold wordP
  show wordL (climb .leaf 0 ++ expT p.1) ++ invL (wordL (climb .leaf 0 ++ expT p.2)) = _
  simp only [climb, List.singleton_append]
  rw [wordL_shift, wordL_shift, invL_away _ (fun x hx => by have := wordT_pos _ _ x hx; omega), List.map_append]
theorem wordP_nz (p : Tr × Tr) : ∀ x ∈ wordP p, x ≠ 0 := by
  intro x hx
  rcases List.mem_append.1 hx with h | h
  · have := wordT_pos _ _ x h; omega
  · unfold invL at h
    rw [List.mem_reverse, List.mem_map] at h
    obtain ⟨y, hy, rfl⟩ := h
    have := wordT_pos _ _ y hy; omega
theorem foldl_away : ∀ (ws : List Int) (a b : Int × Int), (∀ x ∈ ws, x ≠ 0) → a.1 = 0 → a.2 = b.1 + b.2 → ((ws.map away).foldl sumS a).1 = 0 ∧ ((ws.map away).foldl sumS a).2 = (ws.foldl sumS b).1 + (ws.foldl sumS b).2
  | [], a, b, _, h1, h2 => ⟨h1, h2⟩
  | x :: ws, a, b, h, h1, h2 => by
    have hx := h x List.mem_cons_self
    simp only [List.map_cons, List.foldl_cons]
    refine foldl_away ws _ _ (fun y hy => h y (List.mem_cons_of_mem _ hy)) ?_ ?_
    · unfold sumS away
      rw [if_neg (by split <;> omega)]
      exact h1
    · have e : sg (away x) = sg x := by unfold sg away; split <;> split <;> omega
      unfold sumS
      rw [if_neg (by unfold away; split <;> omega), e]
      split
      · simp only; omega
      · simp only; omega
theorem sums_shift {p : Tr × Tr} (hp : Bal p) : (sumW (wordP (red (red (hv one p))))).1 = 0 ∧ (sumW (wordP (red (red (hv one p))))).2 = (sumW (wordP (red p))).1 + (sumW (wordP (red p))).2 := by
  rw [red_red]
  by_cases e : red p = one
  · rw [red_hv_one Bal.one hp red_one e, e]
    exact ⟨rfl, rfl⟩
  · rw [red_hv Bal.one hp (fun h => e h.2), red_one, wordP_hv]
    exact foldl_away _ _ _ (wordP_nz _) rfl rfl
end Go.Proofs.YtpmmajfdcicjiaaGreat.N
