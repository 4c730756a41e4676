import Derived.Test.YtgnepbogadfinaaXa16
import Derived.Test.YtgnepbogadfinaaXa29
import Derived.Test.YtgnepbogadfinaaXa30
/- A part of the proof: lemmas that later parts use. -/
set_option linter.unusedVariables false
set_option linter.unusedSimpArgs false
namespace Go.Proofs.Ytgnepbogadfinaa.N
theorem si_is_fi (T : Tr) (hT : T.carets ≤ 20) (p : Nat) (hp : p ≤ 1099511627776) : si p (addrs T []) 0 0 = fi p (addrs T []) := by
  have c := addrs_chn T [] (by have := T.depth_le; simp; omega)
  have hne : addrs T [] ≠ [] := fun h => by have := addrs_length T []; rw [h] at this; simp at this
  have := si_fi p (addrs T []) _ _ 0 0 c hne (by show 0 ≤ p; omega) (by show p ≤ 0 + part 0; rw [part_zero]; omega)
  rw [this, Nat.zero_add]
theorem stT_stay {p n k : Nat} {b : List UInt8} (hp : p < 1099511627776) (h0 : fi p (addrs (stT n p []) []) = k) (h1 : (addrs (stT n p []) [])[k]? = some b) (h2 : plA b = p) : ∀ i, n + i < 40 → stT (n + i) p [] = stT n p []
  | 0, _ => rfl
  | i + 1, h => by
    have ih := stT_stay hp h0 h1 h2 i (by omega)
    obtain ⟨k', b', g0, g1, _, _, _, _, g6, _⟩ := stT_step p (n + i) [] (by simp; omega) (Nat.zero_le _) (by show p < 0 + part 0; rw [part_zero]; omega)
    rw [ih] at g0 g1 g6
    have e1 : k' = k := g0.symm.trans h0
    subst e1
    rw [h1] at g1
    have e2 := Option.some.inj g1
    subst e2
    exact g6 h2
theorem halve_back (m k : Nat) (ho : k = 0 ∨ m % 2 = 1) : ∀ s f, s ≤ f → halve f (m * 2 ^ s) (2 ^ (k + s)) = (m, 2 ^ k)
  | 0, f, _ => by
    rw [Nat.pow_zero, Nat.mul_one, Nat.add_zero]
    refine halve_stop f m _ ?_
    rintro ⟨h1, h2⟩
    rcases ho with rfl | ho
    · simp at h1
    · omega
  | s + 1, f, h => by
    obtain ⟨f, rfl⟩ : ∃ f', f = f' + 1 := ⟨f - 1, by omega⟩
    have e1 : m * 2 ^ (s + 1) = (m * 2 ^ s) * 2 := by rw [Nat.pow_succ, Nat.mul_assoc]
    have e2 : 2 ^ (k + (s + 1)) = 2 ^ (k + s) * 2 := by rw [← Nat.add_assoc, Nat.pow_succ]
    have hp := Nat.two_pow_pos (k + s)
    unfold halve
    rw [e1, e2, if_pos ⟨by omega, Nat.mul_mod_left _ _⟩, Nat.mul_div_cancel _ (by omega), Nat.mul_div_cancel _ (by omega)]
    exact halve_back m k ho s f (by omega)
theorem halve_frac (m k : Nat) (hk : k ≤ 10) (ho : k = 0 ∨ m % 2 = 1) : halve 40 (m * part k) 1099511627776 = (m, 2 ^ k) := by
  have := halve_back m k ho (40 - k) 40 (by omega)
  rw [show k + (40 - k) = 40 by omega] at this
  exact this
end Go.Proofs.Ytgnepbogadfinaa.N
namespace Go.Proofs.Ytgnepbogadfinaa.PA
open Go.RowKit Go.Proofs.YtgnepbogadfinaaW.PrintWords Go.Proofs.YtgnepbogadfinaaW.PrintLast
theorem oct_of3 {l : List Int} (h : ∀ x ∈ l, (Lit.int .u8 x).wf = true) : Oct l := fun x hx => by
  have := h x hx
  simp [Lit.wf, IntKind.min, IntKind.max, IntKind.bits, IntKind.signed] at this
  omega
theorem drawCO_ev {l : List Int} (hl : Oct l) : ∃ v, Ev (fun k => spec_DrawCarrierOf.f k l) v := by
  obtain ⟨x, y, a, s, ⟨K1, h1⟩, hL⟩ := frac_ev hl (m := 1000) (a := 0) (s := 0) 4 (by omega) (by unfold Lf; omega)
  obtain ⟨z, t, a', s', ⟨K2, h2⟩, _⟩ := frac_ev hl (m := 0) (a := a) (s := s) 4 (by omega) (by unfold Lf at *; omega)
  refine ⟨(x, y, z, t), K1 + K2, fun k hk => ?_⟩
  have e1 : spec_l1Cur_fraction.f k l 0 0 4 = some (x, y, a, s) := h1 k (by omega)
  have e2 : spec_l1Cur_fraction.f k l a s 4 = some (z, t, a', s') := h2 k (by omega)
  show spec_DrawCarrierOf.f k l = _
  unfold spec_DrawCarrierOf.f
  rw [e1, Option.bind_some, e2, Option.bind_some]
theorem rd_frs (l : List (List UInt8)) (j : Nat) (b : List UInt8) (h : l[j]? = some b) : rd_T25 (frS (l.map N.stF)) (j : Int) = (⟨(N.sN b : Int), (N.sD b : Int)⟩ : S25) := by
  show ((l.map N.stF).map fun x : Nat × Nat => (⟨(x.1 : Int), (x.2 : Int)⟩ : S25)).getD j _ = _
  rw [List.getD_eq_getElem?_getD, List.getElem?_map, List.getElem?_map, h]
  rfl
theorem ob_step (m d : Int) (T : N.Tr) (r : ByteArray) (i : Nat) (s1 s2 : Int) (L : List S25) (h1 : spec_mpStarts.f (N.tx T) = some L) (h2 : spec_mpLeaf.f (N.tx T) m d = some (i : Int)) (hl : i < L.length) (hr : rd_T25 L (i : Int) = ⟨s1, s2⟩) :
    (s1 = m ∧ s2 = d → ∀ k, spec_obStart.l0 (k + 1) (N.tx T) m d = some (N.tx T, (i : Int))) ∧
    (¬(s1 = m ∧ s2 = d) → spec_trGraft.f (N.tx T) (i : Int) (⟨#[40, 46, 46, 41]⟩ : ByteArray) = some r → ∀ k, spec_obStart.l0 (k + 1) (N.tx T) m d = spec_obStart.l0 k r m d) := by
  generalize N.tx T = t at *
  constructor
  · rintro ⟨rfl, rfl⟩ k
    rw [spec_obStart.l0, h1, Option.bind_some, h2, Option.bind_some, if_pos (by omega), if_pos (by omega), hr]
    rw [if_pos (by simp)]
  · intro hn hg k
    rw [spec_obStart.l0, h1, Option.bind_some, h2, Option.bind_some, if_pos (by omega), if_pos (by omega), hr]
    rw [if_neg (by simp; intro a; exact fun b => hn ⟨a, b⟩), hg, Option.bind_some]
theorem graft_cherry (T U : N.Tr) (i : Nat) (hi : i ≤ T.carets) (hT : T.carets ≤ 20) (h : U = N.graft T i (.node .leaf .leaf)) : spec_trGraft.f (N.tx T) (i : Int) (⟨#[40, 46, 46, 41]⟩ : ByteArray) = some (N.tx U) := by
  have e : (⟨#[40, 46, 46, 41]⟩ : ByteArray) = N.tx (.node .leaf .leaf) := rfl
  unfold spec_trGraft.f
  rw [e, N.parseT_tx, N.parseT_tx]
  dsimp only
  rw [if_pos ⟨by omega, by omega, by omega, by decide⟩, h]
  rfl
theorem ob_loop (m k : Nat) (hk : k ≤ 10) (hg : N.goodB (m : Int) ((2 ^ k : Nat) : Int) = true) (ho : k = 0 ∨ m % 2 = 1) (hp : m * N.part k < 1099511627776) (hp2 : m * N.part k % 1073741824 = 0) :
    ∀ j n, n + j = 10 → Ev (fun r => spec_obStart.l0 r (N.tx (N.stT n (m * N.part k) [])) (m : Int) ((2 ^ k : Nat) : Int)) (N.tx (N.stT 10 (m * N.part k) []), ((N.fi (m * N.part k) (N.addrs (N.stT 10 (m * N.part k) []) []) : Nat) : Int)) := by
  have ends := N.stT_end (m * N.part k) hp hp2
  have stay := fun n => @N.stT_stay (m * N.part k) n
  have step := fun n (hn : n < 40) => N.stT_step (m * N.part k) n [] (by simpa using hn) (Nat.zero_le _) (by show m * N.part k < 0 + N.part 0; rw [N.part_zero]; omega)
  have small : ∀ n, n ≤ 10 → (N.stT n (m * N.part k) []).carets ≤ 10 := fun n hn => Nat.le_trans (N.stT_small n (m * N.part k) [] (by simp; omega)) hn
  have hpl : plN (m : Int) ((2 ^ k : Nat) : Int) = m * N.part k := plN_eq m k (by omega)
  have iff := fun (b : List UInt8) (hb : b.length ≤ 40) => N.stF_iff b hb m k (by omega) ho
  generalize hP : m * N.part k = P at *
  generalize hD : ((2 ^ k : Nat) : Int) = D at *
  have starts : ∀ n, n ≤ 10 → spec_mpStarts.f (N.tx (N.stT n P [])) = some (frS ((N.addrs (N.stT n P []) []).map N.stF)) := fun n hn => by
    have := small n hn
    unfold spec_mpStarts.f
    rw [N.parseT_tx, Option.bind_some, if_pos (by omega)]
  have leaf : ∀ n, n ≤ 10 → spec_mpLeaf.f (N.tx (N.stT n P [])) (m : Int) D = some ((N.fi P (N.addrs (N.stT n P []) []) : Nat) : Int) := fun n hn => by
    have := small n hn
    unfold spec_mpLeaf.f
    rw [N.parseT_tx, Option.bind_some, if_pos ⟨by omega, hg⟩, hpl, N.si_is_fi _ (by omega) P (by omega)]
  intro j
  induction j with
  | zero =>
    intro n hn
    obtain rfl : n = 10 := by omega
    obtain ⟨i, b, h0, h1, h2, h3, _⟩ := ends
    have hl := (List.getElem?_eq_some_iff.1 h1).1
    have L := leaf 10 (by omega)
    rw [h0] at L ⊢
    obtain ⟨g1, g2⟩ := (iff b (by omega)).2 h2
    have := (ob_step (m : Int) D (N.stT 10 P []) (N.tx .leaf) i _ _ _ (starts 10 (by omega)) L (by simp [frS]; exact hl) (rd_frs _ i b h1)).1 ⟨by rw [g1], by rw [← hD, g2]⟩
    refine ⟨1, fun r hr => ?_⟩
    obtain ⟨r, rfl⟩ : ∃ r', r = r' + 1 := ⟨r - 1, by omega⟩
    exact this r
  | succ j ih =>
    intro n hn
    obtain ⟨i, b, h0, h1, h2, h3, h4, h5, h6, h7⟩ := step n (by omega)
    simp only [List.length_nil, Nat.zero_add] at h4
    have hl := (List.getElem?_eq_some_iff.1 h1).1
    have L := leaf n (by omega)
    rw [h0] at L
    have hfr := rd_frs _ i b h1
    have S := fun r => ob_step (m : Int) D (N.stT n P []) r i _ _ _ (starts n (by omega)) L (by simp [frS]; exact hl) hfr
    by_cases hb : N.plA b = P
    · obtain ⟨g1, g2⟩ := (iff b (by omega)).2 hb
      have st := stay n hp h0 h1 hb (10 - n) (by omega)
      rw [show n + (10 - n) = 10 by omega] at st
      refine ⟨1, fun r hr => ?_⟩
      obtain ⟨r, rfl⟩ : ∃ r', r = r' + 1 := ⟨r - 1, by omega⟩
      rw [st, h0]
      exact (S (N.tx .leaf)).1 ⟨by rw [g1], by rw [← hD, g2]⟩ r
    · obtain ⟨K, hK⟩ := ih (n + 1) (by omega)
      have hne : ¬ ((N.sN b : Int) = (m : Int) ∧ (N.sD b : Int) = D) := by
        rintro ⟨a1, a2⟩
        exact hb ((iff b (by omega)).1 ⟨by omega, by rw [← hD] at a2; omega⟩)
      have G := graft_cherry (N.stT n P []) (N.stT (n + 1) P []) i (by rw [N.addrs_length] at hl; omega) (by have := small n (by omega); omega) (by
        have := h7 hb 0
        simp only [Nat.zero_add] at this
        exact this)
      refine ⟨K + 1, fun r hr => ?_⟩
      obtain ⟨r, rfl⟩ : ∃ r', r = r' + 1 := ⟨r - 1, by omega⟩
      have e : spec_obStart.l0 r (N.tx (N.stT (n + 1) P [])) (m : Int) D = _ := hK r (by omega)
      show spec_obStart.l0 (r + 1) _ _ _ = _
      rw [(S _).2 hne G r, e]
theorem most_0 (x : Int) (n : Nat) (h : x = n ∨ (n = 0 ∧ x ≤ 0)) : spec_l1Most.f 0 x = some (n : Int) := by
  unfold spec_l1Most.f
  by_cases hx : (0 : Int) > x
  · rw [if_pos hx]; congr 1; omega
  · rw [if_neg hx]; congr 1; omega
theorem right_0 (n : Nat) (h : n < 100000) : spec_trRight.f (n : Int) = some (N.tx (N.comb n)) := by
  unfold spec_trRight.f
  rw [if_pos ⟨by omega, by omega⟩]
  rfl
theorem graft_0 (T U : N.Tr) (i : Nat) (hi : i ≤ T.carets) (hT : T.carets < 1000) (hU : U.carets < 1000) : spec_trGraft.f (N.tx T) (i : Int) (N.tx U) = some (N.tx (N.graft T i U)) := by
  unfold spec_trGraft.f
  rw [N.parseT_tx, N.parseT_tx]
  dsimp only
  rw [if_pos ⟨by omega, by omega, by omega, by omega⟩]
  rfl
theorem carets_0 (T : N.Tr) (hT : T.carets ≤ 1000) : spec_trCarets.f (N.tx T) = some (T.carets : Int) := by
  unfold spec_trCarets.f
  rw [N.parseT_tx, Option.bind_some, if_pos hT]
theorem graft_carets (T U : N.Tr) (k : Nat) (hT : T.carets ≤ 30) (hU : U.carets ≤ 30) : (N.graft T k U).carets < 1000 := by
  have := N.grown_carets_le (fun i => if i = k then U else .leaf) 30 (fun i => by
    split
    · exact hU
    · exact Nat.zero_le _) T 0
  unfold N.graft
  have := Nat.mul_le_mul_right 30 (show T.carets + 1 ≤ 31 by omega)
  omega
theorem spec_pad (k : Nat) (n1 d1 n2 d2 : Int) (T U : N.Tr) (i j : Nat) (hT : 1 ≤ T.carets) (hT2 : T.carets ≤ 10) (hU : 1 ≤ U.carets) (hU2 : U.carets ≤ 10) (hi : i ≤ T.carets) (hj : j ≤ U.carets) (h1 : spec_obStart.f k n1 d1 = some (N.tx T, (i : Int))) (h2 : spec_obStart.f k n2 d2 = some (N.tx U, (j : Int)))
    (P : N.Tr × N.Tr) (hP : P = (N.padT T (j - i) (U.carets - j - (T.carets - i)), N.padT U (i - j) (T.carets - i - (U.carets - j)))) (hc : (N.red P).1.carets = (N.red P).2.carets) :
    spec_CarrierOf.j0 (k + 1) false n1 d1 n2 d2 = some (N.ifF (N.red P)) := by
  have c1 := carets_0 T (by omega)
  have c2 := carets_0 U (by omega)
  have e1 := N.pad_two T (j - i) (U.carets - j - (T.carets - i)) hT
  have e2 := N.pad_two U (i - j) (T.carets - i - (U.carets - j)) hU
  have g1 := graft_0 T (N.comb (U.carets - j - (T.carets - i))) T.carets (Nat.le_refl _) (by omega) (by rw [N.comb_carets]; omega)
  have g2 := graft_0 U (N.comb (T.carets - i - (U.carets - j))) U.carets (Nat.le_refl _) (by omega) (by rw [N.comb_carets]; omega)
  have l1 := graft_carets T (N.comb (U.carets - j - (T.carets - i))) T.carets (by omega) (by rw [N.comb_carets]; omega)
  have l2 := graft_carets U (N.comb (T.carets - i - (U.carets - j))) U.carets (by omega) (by rw [N.comb_carets]; omega)
  have g3 := graft_0 (N.graft T T.carets (N.comb (U.carets - j - (T.carets - i)))) (N.comb (j - i)) 0 (Nat.zero_le _) l1 (by rw [N.comb_carets]; omega)
  have g4 := graft_0 (N.graft U U.carets (N.comb (T.carets - i - (U.carets - j)))) (N.comb (i - j)) 0 (Nat.zero_le _) l2 (by rw [N.comb_carets]; omega)
  rw [e1] at g3
  rw [e2] at g4
  have z1 := N.padT_le T (j - i) (U.carets - j - (T.carets - i)) hT2 (by omega) (by omega)
  have z2 := N.padT_le U (i - j) (T.carets - i - (U.carets - j)) hU2 (by omega) (by omega)
  have R : spec_prReduce.f (N.tx (N.padT T (j - i) (U.carets - j - (T.carets - i)))) (N.tx (N.padT U (i - j) (T.carets - i - (U.carets - j)))) ([] : List Int) = some (N.tx (N.red P).1, N.tx (N.red P).2) := by
    unfold spec_prReduce.f
    rw [N.parseT_tx, N.parseT_tx, Option.bind_some, Option.bind_some, if_pos ⟨z1, z2, rfl⟩, hP]
  have I : spec_prIf.f (N.tx (N.red P).1) (N.tx (N.red P).2) = some (N.ifF (N.red P)) := by
    unfold spec_prIf.f
    rw [N.parseT_tx, N.parseT_tx, Option.bind_some, Option.bind_some, if_pos hc]
  have m1 := most_0 ((wrap64 ((wrap64 ((wrap64 ((U.carets : Int) + 1)) - (j : Int))) - (wrap64 ((wrap64 ((T.carets : Int) + 1)) - (i : Int)))))) (U.carets - j - (T.carets - i)) (by
    rw [w64 (x := (U.carets : Int) + 1) (by omega), w64 (x := (T.carets : Int) + 1) (by omega), w64 (x := (U.carets : Int) + 1 - j) (by omega), w64 (x := (T.carets : Int) + 1 - i) (by omega), w64 (by omega)]; omega)
  have m2 := most_0 ((wrap64 ((wrap64 ((wrap64 ((T.carets : Int) + 1)) - (i : Int))) - (wrap64 ((wrap64 ((U.carets : Int) + 1)) - (j : Int)))))) (T.carets - i - (U.carets - j)) (by
    rw [w64 (x := (U.carets : Int) + 1) (by omega), w64 (x := (T.carets : Int) + 1) (by omega), w64 (x := (U.carets : Int) + 1 - j) (by omega), w64 (x := (T.carets : Int) + 1 - i) (by omega), w64 (by omega)]; omega)
  have m3 := most_0 (wrap64 ((j : Int) - (i : Int))) (j - i) (by rw [w64 (by omega)]; omega)
  have m4 := most_0 (wrap64 ((i : Int) - (j : Int))) (i - j) (by rw [w64 (by omega)]; omega)
  have r1 := right_0 (U.carets - j - (T.carets - i)) (by omega)
  have r2 := right_0 (T.carets - i - (U.carets - j)) (by omega)
  have r3 := right_0 (j - i) (by omega)
  have r4 := right_0 (i - j) (by omega)
  clear e1 e2 l1 l2 z1 z2 hP hc
  generalize N.ifF (N.red P) = V at *
  generalize N.tx (N.red P).1 = q1 at *
  generalize N.tx (N.red P).2 = q2 at *
  generalize N.tx (N.padT T (j - i) (U.carets - j - (T.carets - i))) = a1 at *
  generalize N.tx (N.padT U (i - j) (T.carets - i - (U.carets - j))) = a2 at *
  generalize N.tx (N.graft T T.carets (N.comb (U.carets - j - (T.carets - i)))) = b1 at *
  generalize N.tx (N.graft U U.carets (N.comb (T.carets - i - (U.carets - j)))) = b2 at *
  generalize U.carets - j - (T.carets - i) = x1 at *
  generalize T.carets - i - (U.carets - j) = x2 at *
  generalize j - i = x3 at *
  generalize i - j = x4 at *
  generalize N.tx (N.comb x1) = y1 at *
  generalize N.tx (N.comb x2) = y2 at *
  generalize N.tx (N.comb x3) = y3 at *
  generalize N.tx (N.comb x4) = y4 at *
  generalize N.tx T = t at *
  generalize N.tx U = u at *
  rw [spec_CarrierOf.j0, if_neg (by decide), h1, Option.bind_some, h2, Option.bind_some]
  dsimp only
  rw [c1, Option.bind_some, c2, Option.bind_some, Option.bind_some, m1, Option.bind_some, r1, Option.bind_some, g1, Option.bind_some, Option.bind_some, m2, Option.bind_some, r2, Option.bind_some, g2, Option.bind_some, m3, Option.bind_some, r3, Option.bind_some]
  rw [show spec_trGraft.f b1 0 y3 = some a1 from g3, Option.bind_some, m4, Option.bind_some, r4, Option.bind_some, show spec_trGraft.f b2 0 y4 = some a2 from g4, Option.bind_some, R, Option.bind_some, I, Option.bind_some]
theorem btw_form {n d : Int} (h : (N.goodB n d && decide (1 < d)) = true) : ∃ m k : Nat, n = m ∧ d = ((2 ^ k : Nat) : Int) ∧ k ≤ 10 ∧ (k = 0 ∨ m % 2 = 1) ∧ N.goodB (m : Int) ((2 ^ k : Nat) : Int) = true ∧ plN n d = m * N.part k ∧ 0 < m * N.part k ∧ m * N.part k < 1099511627776 ∧ m * N.part k % 1073741824 = 0 := by
  rw [Bool.and_eq_true] at h
  obtain ⟨m, k, rfl, rfl, hk, hm, ho⟩ := N.goodB_true h.1
  have hd := of_decide_eq_true h.2
  have hk0 : k ≠ 0 := by
    intro h0
    subst h0
    simp at hd
  have hodd : m % 2 = 1 := ho.resolve_left hk0
  have hpos : 0 < N.part k := by unfold N.part; exact Nat.two_pow_pos _
  have hpm := N.part_mul (k := k) (by omega)
  have hlt : m < 2 ^ k := by
    apply Nat.lt_of_le_of_ne hm
    intro e
    obtain ⟨q, rfl⟩ : ∃ q, k = q + 1 := ⟨k - 1, by omega⟩
    rw [Nat.pow_succ] at e
    omega
  have h1 := Nat.mul_lt_mul_of_pos_right hlt hpos
  rw [hpm] at h1
  have gap := N.FrOk.gap (x := (m, 2 ^ k)) (by unfold N.FrOk; exact h.1)
  unfold N.plc at gap
  dsimp only at gap
  rw [N.part_div (by omega)] at gap
  exact ⟨m, k, rfl, rfl, hk, ho, h.1, plN_eq m k (by omega), Nat.mul_pos (by omega) hpos, h1, gap⟩
theorem spec_car (n1 d1 n2 d2 : Int) (v : ByteArray × ByteArray × Bool) (h : impl_CarrierOf.f n1 d1 n2 d2 = some v) : Ev (fun k => spec_CarrierOf.f k n1 d1 n2 d2) v := by
  unfold impl_CarrierOf.f at h
  replace h := Option.some.inj h
  have G1 : spec_mpGood.f n1 d1 = some (N.goodB n1 d1) := rfl
  have G2 : spec_mpGood.f n2 d2 = some (N.goodB n2 d2) := rfl
  have bad : ∀ k, spec_CarrierOf.j0 (k + 1) true n1 d1 n2 d2 = some N.noP := fun k => by
    rw [spec_CarrierOf.j0, if_pos rfl]; rfl
  split at h
  · rename_i hg
    obtain ⟨m1, k1, rfl, rfl, a1, a2, a3, a4, a5, a6, a7⟩ := btw_form hg.1
    obtain ⟨m2, k2, rfl, rfl, b1, b2, b3, b4, b5, b6, b7⟩ := btw_form hg.2
    have D1 : ((2 ^ k1 : Nat) : Int) ≠ 1 := by
      have := hg.1; rw [Bool.and_eq_true] at this; have := of_decide_eq_true this.2; omega
    have D2 : ((2 ^ k2 : Nat) : Int) ≠ 1 := by
      have := hg.2; rw [Bool.and_eq_true] at this; have := of_decide_eq_true this.2; omega
    rw [a4, b4] at h
    obtain ⟨K1, H1⟩ := ob_loop m1 k1 a1 a3 a2 a6 a7 10 0 rfl
    obtain ⟨K2, H2⟩ := ob_loop m2 k2 b1 b3 b2 b6 b7 10 0 rfl
    obtain ⟨i, i0, i1, i2, i3, i4, i5, _⟩ := N.st_facts _ a5 a6 a7
    obtain ⟨j, j0, j1, j2, j3, j4, j5, _⟩ := N.st_facts _ b5 b6 b7
    obtain ⟨hB, _, _⟩ := N.car_facts _ _ a5 a6 a7 b5 b6 b7
    have hc : N.carP (m1 * N.part k1) (m2 * N.part k2) = (N.padT (N.stT 10 (m1 * N.part k1) []) (j - i) ((N.stT 10 (m2 * N.part k2) []).carets - j - ((N.stT 10 (m1 * N.part k1) []).carets - i)), N.padT (N.stT 10 (m2 * N.part k2) []) (i - j) ((N.stT 10 (m1 * N.part k1) []).carets - i - ((N.stT 10 (m2 * N.part k2) []).carets - j))) := by
      unfold N.carP
      dsimp only
      rw [i4, i5, j4, j5]
    rw [i0] at H1
    rw [j0] at H2
    have hr : (N.red (N.carP (m1 * N.part k1) (m2 * N.part k2))).1.carets = (N.red (N.carP (m1 * N.part k1) (m2 * N.part k2))).2.carets := hB.red
    generalize ((2 ^ k1 : Nat) : Int) = d1 at *
    generalize ((2 ^ k2 : Nat) : Int) = d2 at *
    refine ⟨K1 + K2 + 1, fun k hk => ?_⟩
    obtain ⟨k, rfl⟩ : ∃ k', k = k' + 1 := ⟨k - 1, by omega⟩
    have e1 : spec_obStart.l0 k (N.tx (N.stT 0 (m1 * N.part k1) [])) (m1 : Int) d1 = _ := H1 k (by omega)
    have e2 : spec_obStart.l0 k (N.tx (N.stT 0 (m2 * N.part k2) [])) (m2 : Int) d2 = _ := H2 k (by omega)
    have fin := spec_pad k m1 d1 m2 d2 _ _ i j (by omega) i3 (by omega) j3 i2 j2 e1 e2 _ hc hr
    show spec_CarrierOf.f (k + 1) _ _ _ _ = _
    unfold spec_CarrierOf.f
    rw [G1, Option.bind_some, if_pos a3, G2, Option.bind_some, if_pos b3, if_neg D1, show ((d2 == 1) : Bool) = false from beq_eq_false_iff_ne.2 D2, fin, h]
  · rename_i hg
    refine ⟨1, fun k hk => ?_⟩
    obtain ⟨k, rfl⟩ : ∃ k', k = k' + 1 := ⟨k - 1, by omega⟩
    show spec_CarrierOf.f (k + 1) _ _ _ _ = _
    unfold spec_CarrierOf.f
    rw [G1, Option.bind_some, G2]
    by_cases g1 : N.goodB n1 d1 = true
    · rw [if_pos g1, Option.bind_some]
      by_cases g2 : N.goodB n2 d2 = true
      · rw [if_pos g2]
        by_cases hd : d1 = 1
        · rw [if_pos hd, bad, h]
        · rw [if_neg hd]
          have hd2 : d2 = 1 := by
            apply Classical.byContradiction
            intro hd2
            apply hg
            obtain ⟨m1, k1, rfl, rfl, _, _, _⟩ := N.goodB_true g1
            obtain ⟨m2, k2, rfl, rfl, _, _, _⟩ := N.goodB_true g2
            have := Nat.two_pow_pos k1
            have := Nat.two_pow_pos k2
            rw [g1, g2, Bool.true_and, Bool.true_and, decide_eq_true_iff, decide_eq_true_iff]
            omega
          subst hd2
          rw [show ((1 : Int) == 1) = true from rfl, bad, h]
      · rw [if_neg g2, bad, h]
    · rw [if_neg g1, bad, h]
theorem cc_law {l0 l1 : List Int} (h0 : Oct l0) : ∃ k, laws_FnCarriersCarry.f k l0 l1 = some true := by
  obtain ⟨⟨n1, d1, n2, d2⟩, K1, e1⟩ := drawCO_ev h0
  obtain ⟨b, hb⟩ : ∃ b, laws_big.f l0 l1 = some b := by
    unfold laws_big.f
    split
    · exact ⟨_, rfl⟩
    · exact ⟨_, rfl⟩
  cases b with
  | true => exact ⟨0, by unfold laws_FnCarriersCarry.f; rw [hb, Option.bind_some, if_pos rfl]⟩
  | false =>
    obtain ⟨⟨s, t, ok⟩, hv⟩ : ∃ v, impl_CarrierOf.f n1 d1 n2 d2 = some v := ⟨_, rfl⟩
    obtain ⟨K2, e2⟩ := spec_car n1 d1 n2 d2 _ hv
    suffices hj : laws_FnCarriersCarry.j0 (K1 + K2 + 1) ok false n1 d1 n2 d2 s t = some true by
      refine ⟨K1 + K2 + 1, ?_⟩
      have g1 : spec_DrawCarrierOf.f (K1 + K2 + 1) l0 = some (n1, d1, n2, d2) := e1 _ (by omega)
      have g2 : spec_CarrierOf.f (K1 + K2 + 1) n1 d1 n2 d2 = some (s, t, ok) := e2 _ (by omega)
      unfold laws_FnCarriersCarry.f
      rw [hb, Option.bind_some, if_neg (by decide), g1, Option.bind_some]
      dsimp only
      rw [hv, Option.bind_some, g2, Option.bind_some]
      dsimp only
      rw [if_neg (by simp), show (!(s.toList == s.toList) || (!(t.toList == t.toList))) = false by simp]
      exact hj
    rw [laws_FnCarriersCarry.j0, if_neg (by decide)]
    cases ok with
    | false => rw [if_neg (by decide)]
    | true =>
      rw [if_pos rfl]
      have hv2 := hv
      unfold impl_CarrierOf.f at hv2
      replace hv2 := Option.some.inj hv2
      split at hv2
      · rename_i hg
        obtain ⟨m1, k1, rfl, rfl, a1, a2, a3, a4, a5, a6, a7⟩ := btw_form hg.1
        obtain ⟨m2, k2, rfl, rfl, b1, b2, b3, b4, b5, b6, b7⟩ := btw_form hg.2
        have hrev : impl_CarrierOf.f (m2 : Int) ((2 ^ k2 : Nat) : Int) (m1 : Int) ((2 ^ k1 : Nat) : Int) = some (N.ifF (N.red (N.carP (m2 * N.part k2) (m1 * N.part k1)))) := by
          unfold impl_CarrierOf.f
          rw [if_pos ⟨hg.2, hg.1⟩, a4, b4]
        have hF : N.frF (m2 * N.part k2) = some (m2, 2 ^ k2) := by
          unfold N.frF
          rw [N.halve_frac m2 k2 b1 b2]
          exact if_pos (by have := Nat.pow_le_pow_right (show 0 < 2 by omega) b1; omega)
        have hsame : m1 = m2 ∧ k1 = k2 → N.red (N.carP (m1 * N.part k1) (m2 * N.part k2)) = N.one := by
          rintro ⟨rfl, rfl⟩; exact N.car_same _
        rw [a4, b4] at hv2
        rw [N.car_swap] at hrev
        obtain ⟨hB, _, _⟩ := N.car_facts _ _ a5 a6 a7 b5 b6 b7
        have hval := N.car_val _ _ a5 a6 a7 b5 b6 b7
        rw [N.red_inv hB] at hrev
        have hBr := hB.red
        have hbo := N.red_both (N.carP (m1 * N.part k1) (m2 * N.part k2))
        generalize N.red (N.carP (m1 * N.part k1) (m2 * N.part k2)) = R at *
        unfold N.ifF at hv2
        by_cases h8 : R.1.carets ≤ 8
        · rw [if_pos h8] at hv2
          unfold N.okP at hv2
          simp only [Prod.mk.injEq] at hv2
          obtain ⟨rfl, rfl, _⟩ := hv2
          have hval := hval h8
          unfold N.Bal at hBr
          have hpr : N.pairT (N.tx R.1) (N.tx R.2) = some R := N.pairT_yes hBr (by omega)
          have V : impl_ValueOf.f (N.tx R.1) (N.tx R.2) (m1 : Int) ((2 ^ k1 : Nat) : Int) = some ((m2 : Int), ((2 ^ k2 : Nat) : Int), true) := by
            unfold impl_ValueOf.f
            rw [hpr]
            dsimp only
            rw [if_pos a3, a4, hval, hF]
          have W : N.ifF (N.inv R) = N.okP (N.inv R) := by
            unfold N.ifF
            exact if_pos (by unfold N.inv; dsimp only; omega)
          have X : impl_InversePair.f (N.tx R.1) (N.tx R.2) = some (N.okP (N.inv R)) := by
            unfold impl_InversePair.f
            rw [hpr]; rfl
          have Y : impl_IsReduced.f (N.tx R.1) (N.tx R.2) = some (true, true) := by
            unfold impl_IsReduced.f
            rw [hpr, Option.map_some, hbo]; rfl
          rw [W] at hrev
          have Z : N.okP (N.inv R) = (N.tx R.2, N.tx R.1, true) := rfl
          rw [Z] at hrev X
          have hone : m1 = m2 ∧ k1 = k2 → N.tx R.1 = ⟨#[46]⟩ ∧ N.tx R.2 = ⟨#[46]⟩ := fun h => by
            rw [hsame h]; exact ⟨rfl, rfl⟩
          clear hsame W Z hpr hbo hval hBr h8 hv hB e2
          generalize N.tx R.1 = s at *
          generalize N.tx R.2 = t at *
          have hpow : ((2 ^ k1 : Nat) : Int) = ((2 ^ k2 : Nat) : Int) → k1 = k2 := fun h => (Nat.pow_right_inj (show 1 < 2 by omega)).1 (by exact_mod_cast h)
          generalize ((2 ^ k1 : Nat) : Int) = d1 at *
          generalize ((2 ^ k2 : Nat) : Int) = d2 at *
          rw [V, Option.bind_some, hrev, Option.bind_some, X, Option.bind_some, Y, Option.bind_some]
          dsimp only
          rw [if_pos rfl, if_pos (by simp), if_pos rfl, if_pos rfl, if_pos (by simp), if_pos rfl, if_pos rfl]
          by_cases hs : (!((m1 : Int) == (m2 : Int)) || (!(d1 == d2))) = true
          · rw [if_pos hs]
          · rw [if_neg hs]
            simp only [Bool.or_eq_true, Bool.not_eq_true', beq_eq_false_iff_ne, ne_eq, not_or, Classical.not_not] at hs
            obtain ⟨r1, r2⟩ := hone ⟨by omega, hpow hs.2⟩
            unfold impl_IdentityPair.f
            rw [Option.bind_some]
            dsimp only
            rw [r1, r2]
            simp
        · rw [if_neg h8] at hv2
          simp [N.noP] at hv2
      · simp [N.noP] at hv2
end Go.Proofs.Ytgnepbogadfinaa.PA
namespace Go.Proofs.Ytgnepbogadfinaa.Pure
open Go.RowKit Go.Proofs.Ytgnepbogadfinaa.PA Go.Proofs.YtgnepbogadfinaaW.PrintWords Go.Proofs.YtgnepbogadfinaaW.PrintLast
theorem FnCarriersCarry : laws_FnCarriersCarry.Pure := by
  intro l0 l1 _ _ h0 _ _ h1
  exact cc_law (oct_of3 h0)
end Go.Proofs.Ytgnepbogadfinaa.Pure
