import Derived.Test.YtgnepbogadfinaaGreatDoorXm15
import Derived.Test.YtgnepbogadfinaaGreatDoorXm17
import Derived.Test.YtgnepbogadfinaaGreatDoorXm19
/- A part of the proof: lemmas that later parts use. -/
set_option linter.unusedVariables false
set_option linter.unusedSimpArgs false
namespace Go.Proofs.YtgnepbogadfinaaGreatDoor.N
theorem vL_end (p : Nat) : ∀ (la lb : List (List UInt8)) (s s' e' : Nat), la.length = lb.length → la ≠ [] → Chn s p la → Chn s' e' lb → (∀ x ∈ la, x.length ≤ 40) → (∀ x ∈ lb, x.length ≤ 40) → vL la lb p = e'
  | [], _, _, _, _, _, h, _, _, _, _ => absurd rfl h
  | a :: l, [], _, _, _, h, _, _, _, _, _ => by simp at h
  | a :: l, b :: l', s, s', e', hl, _, h1, h2, da, db => by
    have hle : s + part a.length ≤ p := chn_up h1.2
    have hp : ¬ p < plA a + part a.length := by rw [h1.1]; omega
    unfold vL
    by_cases hn : l = []
    · subst hn
      have hl' : l' = [] := by cases l' with | nil => rfl | cons c l => simp at hl
      subst hl'
      have e0 : fi p [a] = 0 := by simp [fi, hp]
      have ep : s + part a.length = p := h1.2
      have ee : s' + part b.length = e' := h2.2
      rw [e0]
      simp only [List.getD_cons_zero]
      have ha := da a List.mem_cons_self
      have hb := db b List.mem_cons_self
      unfold vaL
      rw [h1.1, h2.1, ← ep, Nat.add_sub_cancel_left]
      by_cases hc : b.length ≤ a.length
      · rw [if_pos hc]
        have e := part_pow (l := b.length) (s := a.length - b.length) (by omega)
        rw [show b.length + (a.length - b.length) = a.length by omega] at e
        rw [e, ee]
      · rw [if_neg hc]
        have e := part_pow (l := a.length) (s := b.length - a.length) (by omega)
        rw [show a.length + (b.length - a.length) = b.length by omega] at e
        rw [← e, Nat.mul_div_cancel _ (Nat.two_pow_pos _), ee]
    · have e0 : fi p (a :: l) = fi p l + 1 := by simp [fi, hp, hn]; omega
      rw [e0]
      simp only [List.getD_cons_succ]
      have := vL_end p l l' _ _ _ (by simpa using hl) hn h1.2 h2.2 (fun x hx => da x (List.mem_cons_of_mem _ hx)) (fun x hx => db x (List.mem_cons_of_mem _ hx))
      unfold vL at this
      exact this
theorem vaF_one {A B : Tr} (hc : A.carets = B.carets) (hB : B.carets ≤ 20) : vaF A B 1099511627776 = 1099511627776 := by
  have dA := A.depth_le
  have dB := B.depth_le
  have cA := addrs_chn A [] (by simp; omega)
  have cB := addrs_chn B [] (by simp; omega)
  have hne : addrs A [] ≠ [] := fun h => by have := addrs_length A []; rw [h] at this; simp at this
  have z : plA ([] : List UInt8) + part ([] : List UInt8).length = 1099511627776 := by decide
  rw [z] at cA cB
  exact vL_end _ (addrs A []) (addrs B []) _ _ _ (by rw [addrs_length, addrs_length, hc]) hne cA cB (fun x hx => by have := addrs_depth A [] x hx; simp at this; omega) (fun x hx => by have := addrs_depth B [] x hx; simp at this; omega)
theorem vaF_zero {A B : Tr} (hA : A.carets ≤ 20) (hB : B.carets ≤ 20) : vaF A B 0 = 0 := by
  have dA := A.depth_le
  have dB := B.depth_le
  have cA := addrs_chn A [] (by simp; omega)
  have cB := addrs_chn B [] (by simp; omega)
  have z : plA ([] : List UInt8) = 0 := rfl
  rw [z] at cA cB
  unfold vaF
  cases hA : addrs A [] with
  | nil => have := addrs_length A []; rw [hA] at this; simp at this
  | cons a l =>
    cases hB : addrs B [] with
    | nil => have := addrs_length B []; rw [hB] at this; simp at this
    | cons b l' =>
      rw [hA] at cA
      rw [hB] at cB
      have h0 : 0 < part a.length := Nat.two_pow_pos _
      have e0 : fi 0 (a :: l) = 0 := by simp only [fi]; rw [if_pos (by omega)]
      rw [e0]
      simp only [List.getD_cons_zero]
      unfold vaL
      rw [cA.1, cB.1]
      split <;> simp
theorem vaF_lt {A B : Tr} (hc : A.carets = B.carets) (hB : B.carets ≤ 20) {p : Nat} (hp : p < 1099511627776) (hg : p % 1073741824 = 0) : act (A, B) (sp p) = sp (vaF A B p) ∧ vaF A B p < 1099511627776 :=
  act_sp hc hB hp (Nat.mod_eq_zero_of_dvd (Nat.dvd_trans ⟨1024, rfl⟩ (Nat.dvd_of_mod_eq_zero hg)))
theorem vaF_inv {A B : Tr} (hc : A.carets = B.carets) (hB : B.carets ≤ 20) {p : Nat} (hp : p ≤ 1099511627776) (hg : p % 1073741824 = 0) (hg2 : vaF A B p % 1073741824 = 0) : vaF B A (vaF A B p) = p := by
  by_cases h1 : p = 1099511627776
  · rw [h1, vaF_one hc hB, vaF_one hc.symm (by omega)]
  · obtain ⟨e1, e2⟩ := vaF_lt hc hB (show p < 1099511627776 by omega) hg
    obtain ⟨e3, e4⟩ := vaF_lt hc.symm (by omega) e2 hg2
    have := act_inv (p := (A, B)) hc (sp p)
    rw [e1] at this
    unfold inv at this
    simp only at this
    rw [e3] at this
    exact sp_inj e4 (by omega) this
theorem vaF_red {p : Tr × Tr} (hc : Bal p) (hB : p.2.carets ≤ 8) (hR : (red p).2.carets ≤ 20) {x : Nat} (hx : x ≤ 1099511627776) (hg : x % 1073741824 = 0) : vaF (red p).1 (red p).2 x = vaF p.1 p.2 x := by
  by_cases h1 : x = 1099511627776
  · rw [h1, vaF_one (show p.1.carets = p.2.carets from hc) (by omega), vaF_one (show (red p).1.carets = (red p).2.carets from hc.red) hR]
  · obtain ⟨e1, e2⟩ := vaF_lt (A := p.1) (B := p.2) hc (by omega) (show x < 1099511627776 by omega) hg
    obtain ⟨e3, e4⟩ := vaF_lt (A := (red p).1) (B := (red p).2) hc.red hR (show x < 1099511627776 by omega) hg
    refine sp_inj e4 e2 ?_
    rw [← e3, ← e1]
    exact act_red hc (sp x)
theorem vaF_mul {p q : Tr × Tr} (hp : Bal p) (hq : Bal q) (h1 : p.2.carets ≤ 20) (h2 : q.2.carets ≤ 20) (h3 : (mul p q).2.carets ≤ 20) {x : Nat} (hx : x ≤ 1099511627776) (hg : x % 1073741824 = 0) (hg2 : vaF p.1 p.2 x % 1073741824 = 0) : vaF (mul p q).1 (mul p q).2 x = vaF q.1 q.2 (vaF p.1 p.2 x) := by
  by_cases h0 : x = 1099511627776
  · rw [h0, vaF_one (show p.1.carets = p.2.carets from hp) h1, vaF_one (show q.1.carets = q.2.carets from hq) h2, vaF_one (show (mul p q).1.carets = (mul p q).2.carets from hp.mul hq) h3]
  · obtain ⟨e1, e2⟩ := vaF_lt (A := p.1) (B := p.2) hp h1 (show x < 1099511627776 by omega) hg
    obtain ⟨e3, e4⟩ := vaF_lt (A := (mul p q).1) (B := (mul p q).2) (hp.mul hq) h3 (show x < 1099511627776 by omega) hg
    obtain ⟨e5, e6⟩ := vaF_lt (A := q.1) (B := q.2) hq h2 e2 hg2
    refine sp_inj e4 e6 ?_
    rw [← e3, ← e5, ← e1]
    exact act_mul hp hq (sp x)
theorem vaF_ends {A B : Tr} (hc : A.carets = B.carets) (hB : B.carets ≤ 20) {p : Nat} (hp : p ≤ 1099511627776) (hg : p % 1073741824 = 0) (hg2 : vaF A B p % 1073741824 = 0) : (p = 0 ↔ vaF A B p = 0) ∧ (p = 1099511627776 ↔ vaF A B p = 1099511627776) := by
  have hi := vaF_inv hc hB hp hg hg2
  refine ⟨⟨fun h => by rw [h]; exact vaF_zero (by omega) hB, fun h => ?_⟩, ⟨fun h => by rw [h]; exact vaF_one hc hB, fun h => ?_⟩⟩
  · rw [h, vaF_zero hB (by omega)] at hi; exact hi.symm
  · rw [h, vaF_one hc.symm (by omega)] at hi; exact hi.symm
theorem halve_back (m k : Nat) (ho : k = 0 ∨ m % 2 = 1) : ∀ s f, s ≤ f → halve f (m * 2 ^ s) (2 ^ (k + s)) = (m, 2 ^ k)
  | 0, f, _ => by
    rw [Nat.pow_zero, Nat.mul_one, Nat.add_zero]
    refine halve_stop f m _ ?_
    rintro ⟨h1, h2⟩
    rcases ho with rfl | ho
    · simp at h1
    · omega
  | s + 1, f, h => by
    obtain ⟨f, rfl⟩ : ∃ f', f = f' + 1 := ⟨f - 1, by omega⟩
    have e1 : m * 2 ^ (s + 1) = (m * 2 ^ s) * 2 := by rw [Nat.pow_succ, Nat.mul_assoc]
    have e2 : 2 ^ (k + (s + 1)) = 2 ^ (k + s) * 2 := by rw [← Nat.add_assoc, Nat.pow_succ]
    have hp := Nat.two_pow_pos (k + s)
    unfold halve
    rw [e1, e2, if_pos ⟨by omega, Nat.mul_mod_left _ _⟩, Nat.mul_div_cancel _ (by omega), Nat.mul_div_cancel _ (by omega)]
    exact halve_back m k ho s f (by omega)
theorem halve_frac (m k : Nat) (hk : k ≤ 10) (ho : k = 0 ∨ m % 2 = 1) : halve 40 (m * part k) 1099511627776 = (m, 2 ^ k) := by
  have := halve_back m k ho (40 - k) 40 (by omega)
  rw [show k + (40 - k) = 40 by omega] at this
  exact this
theorem FrOk.back {x : Nat × Nat} (h : FrOk x) : halve 40 (plc x) 1099511627776 = x := by
  obtain ⟨m, k, h1, h2, h3, h4, h5⟩ := goodB_true h
  obtain ⟨a, b⟩ := x
  simp only at h1 h2
  obtain rfl : a = m := by omega
  obtain rfl : b = 2 ^ k := by omega
  unfold plc
  dsimp only
  rw [part_div (by omega)]
  exact halve_frac a k h3 h5
theorem FrOk.frF {x : Nat × Nat} (h : FrOk x) : frF (plc x) = some x := by
  unfold N.frF
  rw [h.back, if_pos h.small]
theorem frF_some {V : Nat} {y : Nat × Nat} (hV : V ≤ 1099511627776) (h : frF V = some y) : FrOk y ∧ plc y = V := by
  unfold frF at h
  split at h
  · rename_i hd
    have e := Option.some.inj h
    rw [← e]
    refine ⟨?_, halve_place V 40 V 40 (Nat.le_refl _) (by simp)⟩
    unfold FrOk
    rw [goodB_halve V hV]
    exact decide_eq_true hd
  · cases h
theorem FrOk.le {x : Nat × Nat} (h : FrOk x) : plc x ≤ 1099511627776 := h.place
theorem FrOk.zero {x : Nat × Nat} (h : FrOk x) : x.1 = 0 ↔ plc x = 0 := by
  obtain ⟨k, h1, h2, h3⟩ := h.form
  unfold plc
  rw [h2, part_div (by omega)]
  have : 0 < part k := Nat.two_pow_pos _
  constructor
  · intro h; rw [h, Nat.zero_mul]
  · intro h
    rcases Nat.mul_eq_zero.1 h with h | h
    · exact h
    · omega
theorem FrOk.whole {x : Nat × Nat} (h : FrOk x) : x.1 = x.2 ↔ plc x = 1099511627776 := by
  obtain ⟨k, h1, h2, h3⟩ := h.form
  have e := part_mul (k := k) (by omega)
  unfold plc
  rw [h2, part_div (by omega)]
  have hp : 0 < part k := Nat.two_pow_pos _
  constructor
  · intro h; rw [h, e]
  · intro h
    rw [← e] at h
    exact Nat.eq_of_mul_eq_mul_right hp h
def btsA (a : List UInt8) : List Bool := a.map fun c => c == 49
theorem btsA_chb {a : List UInt8} (h : Bits a) : (btsA a).map chb = a := by
  unfold btsA
  rw [List.map_map]
  conv => rhs; rw [← List.map_id a]
  refine List.map_congr_left fun c hc => ?_
  rcases h c hc with rfl | rfl <;> rfl
theorem chb_bts (v : List Bool) : btsA (v.map chb) = v := by
  unfold btsA
  rw [List.map_map]
  conv => rhs; rw [← List.map_id v]
  refine List.map_congr_left fun b _ => ?_
  cases b <;> rfl
theorem adB_bits {a : List UInt8} (h : adB a = true) : Bits a ∧ a.length ≤ 10 := by
  unfold adB at h
  rw [Bool.and_eq_true] at h
  refine ⟨fun c hc => ?_, of_decide_eq_true h.1⟩
  have := List.all_eq_true.1 h.2 c hc
  simpa using this
theorem adB_of {a : List UInt8} (h : Bits a) (hl : a.length ≤ 10) : adB a = true := by
  unfold adB
  rw [decide_eq_true hl, Bool.true_and, List.all_eq_true]
  intro c hc
  rcases h c hc with rfl | rfl <;> rfl
theorem sp_adr {a : List UInt8} (h : Bits a) (hl : a.length ≤ 40) : sp (plA a) = sapp (btsA a) (sp 0) := by
  have e := plA_bits (btsA a).length (btsA a) rfl (by unfold btsA; rw [List.length_map]; exact hl)
  rw [btsA_chb h] at e
  have := sapp_sp (btsA a) 0 (by unfold btsA; rw [List.length_map]; exact hl) (Nat.two_pow_pos _)
  rw [Nat.zero_mul, Nat.add_zero, ← e] at this
  exact this.symm
theorem plA_lt {a : List UInt8} (hl : a.length ≤ 40) : plA a < 1099511627776 := by
  have := plI_le a a.length hl
  have h0 : 0 < part a.length := Nat.two_pow_pos _
  unfold plA
  omega
theorem plA_gap {a : List UInt8} (hl : a.length ≤ 10) : plA a % 1073741824 = 0 := by
  have := plA_mod a.length a rfl (by omega)
  refine Nat.mod_eq_zero_of_dvd (Nat.dvd_trans ?_ (Nat.dvd_of_mod_eq_zero this))
  rw [show (1073741824 : Nat) = 2 ^ 30 from rfl]
  unfold part
  exact Nat.pow_dvd_pow 2 (by omega)
theorem imgL_at : ∀ (la lb : List (List UInt8)) (s t : List UInt8), imgL la lb s = some t → ∃ (k : Nat) (a b : List UInt8), la[k]? = some a ∧ lb[k]? = some b ∧ ∃ r, s = a ++ r ∧ t = b ++ r ∧ t.length ≤ 10
  | [], _, s, t, h => by simp [imgL] at h
  | a :: la, [], s, t, h => by simp [imgL] at h
  | a :: la, b :: lb, s, t, h => by
    unfold imgL at h
    by_cases hp : a.isPrefixOf s = true
    · rw [if_pos hp] at h
      by_cases hn : b.length + (s.length - a.length) ≤ 10
      · rw [if_pos hn] at h
        have e := Option.some.inj h
        obtain ⟨r, rfl⟩ := List.isPrefixOf_iff_prefix.1 hp
        refine ⟨0, a, b, rfl, rfl, r, rfl, ?_, ?_⟩
        · rw [← e, List.drop_left]
        · rw [← e, List.length_append, List.length_drop]; exact hn
      · rw [if_neg hn] at h; cases h
    · rw [if_neg hp] at h
      obtain ⟨k, x, y, h1, h2, h3⟩ := imgL_at la lb s t h
      exact ⟨k + 1, x, y, by simpa using h1, by simpa using h2, h3⟩
theorem img_val {A B : Tr} (hc : A.carets = B.carets) (hB : B.carets ≤ 8) {s t : List UInt8} (hs : Bits s) (hl : s.length ≤ 10) (h : imgL (addrs A []) (addrs B []) s = some t) : Bits t ∧ t.length ≤ 10 ∧ vaF A B (plA s) = plA t := by
  obtain ⟨k, a, b, h1, h2, r, rfl, rfl, h3⟩ := imgL_at _ _ _ _ h
  have kA := (List.getElem?_eq_some_iff.1 h1).1
  rw [addrs_length] at kA
  have eA := addrs_adr A [] k (by omega)
  have eB := addrs_adr B [] k (by omega)
  rw [h1, List.nil_append] at eA
  rw [h2, List.nil_append] at eB
  have eA := Option.some.inj eA
  have eB := Option.some.inj eB
  have bB := addrs_bits B [] b (fun c hc => by cases hc) (List.mem_of_getElem? h2)
  have br : Bits r := fun c hc => hs c (List.mem_append_right _ hc)
  have bt : Bits (b ++ r) := fun c hc => by
    rcases List.mem_append.1 hc with h | h
    · exact bB c h
    · exact br c h
  refine ⟨bt, h3, ?_⟩
  obtain ⟨g1, g2⟩ := vaF_lt hc (by omega) (plA_lt (a := a ++ r) (by omega)) (plA_gap hl)
  refine sp_inj g2 (plA_lt (by omega)) ?_
  rw [← g1, sp_adr hs (by omega), sp_adr bt (by omega)]
  have ea : btsA (a ++ r) = adr A k ++ btsA r := by
    rw [eA]; unfold btsA; rw [List.map_append]; congr 1
    exact chb_bts (adr A k)
  have eb : btsA (b ++ r) = adr B k ++ btsA r := by
    rw [eB]; unfold btsA; rw [List.map_append]; congr 1
    exact chb_bts (adr B k)
  rw [ea, eb, sapp_app, sapp_app]
  exact act_at (A, B) k (by simp only; omega) _
theorem half_low (x y : Nat × Nat) (hx : FrOk x) (hy : FrOk y) :
    ((x.1 * y.2 + y.1 * x.2) / Nat.gcd (x.1 * y.2 + y.1 * x.2) (2 * x.2 * y.2), (2 * x.2 * y.2) / Nat.gcd (x.1 * y.2 + y.1 * x.2) (2 * x.2 * y.2)) = halve 40 ((plc x + plc y) / 2) 1099511627776 := by
  obtain ⟨k, h1, h2, h3⟩ := hx.form
  obtain ⟨i, g1, g2, g3⟩ := hy.form
  have gx := hx.gap
  have gy := hy.gap
  have e1 : plc x * x.2 = x.1 * 1099511627776 := by
    unfold plc
    rw [h2, part_div (by omega), Nat.mul_assoc, Nat.mul_comm (part k), part_mul (by omega)]
  have e2 : plc y * y.2 = y.1 * 1099511627776 := by
    unfold plc
    rw [g2, part_div (by omega), Nat.mul_assoc, Nat.mul_comm (part i), part_mul (by omega)]
  have hV : (plc x + plc y) / 2 * 2 = plc x + plc y := by omega
  have p1 : 0 < x.2 := by rw [h2]; exact Nat.two_pow_pos _
  have p2 : 0 < y.2 := by rw [g2]; exact Nat.two_pow_pos _
  have key : (x.1 * y.2 + y.1 * x.2) * 1099511627776 = (plc x + plc y) / 2 * (2 * x.2 * y.2) := by
    have : (plc x + plc y) / 2 * (2 * x.2 * y.2) = ((plc x + plc y) / 2 * 2) * (x.2 * y.2) := by ac_rfl
    rw [this, hV, Nat.add_mul, Nat.add_mul]
    have a1 : plc x * (x.2 * y.2) = x.1 * y.2 * 1099511627776 := by rw [← Nat.mul_assoc, e1]; ac_rfl
    have a2 : plc y * (x.2 * y.2) = y.1 * x.2 * 1099511627776 := by rw [Nat.mul_comm x.2, ← Nat.mul_assoc, e2]; ac_rfl
    rw [a1, a2]
  obtain ⟨q1, q2⟩ := low_eq (Nat.mul_pos (Nat.mul_pos (by omega) p1) p2) (show 0 < 1099511627776 by omega) key
  rw [q1, q2]
  exact (halve_gcd 40 _).symm
end Go.Proofs.YtgnepbogadfinaaGreatDoor.N
